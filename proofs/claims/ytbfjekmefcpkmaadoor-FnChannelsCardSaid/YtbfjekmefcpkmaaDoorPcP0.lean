/- Sets as bits: what the integers' operations tell of natural numbers. Tracks: the fewest that are needed for what is left, the sets that may come first in their order, the chain of the least ones. The first program: what grows, the fewest, by a memory. The first program: the fewest tracks, by a memory. The first program: the chain of the least sets. -/
import Derived.Test.YtbfjekmefcpkmaaDoorMod
import Derived.Test.YtbfjekmefcpkmaaDoorPur
set_option linter.unusedSimpArgs false
set_option linter.unusedVariables false
namespace Go.Proofs.YtbfjekmefcpkmaaDoor
open Go.RowKit

theorem wrap_lo {x : Nat} (h : x < 2 ^ 62) : IntKind.i64.wrap (x : Int) = (x : Int) := wr_in (by omega)
theorem and_lt62 {x y : Nat} (h : x < 2 ^ 62) : x &&& y < 2 ^ 62 := Nat.lt_of_le_of_lt Nat.and_le_left h
theorem andI_nat {x y : Nat} (hx : x < 2 ^ 62) (hy : y < 2 ^ 62) : andI (x : Int) (y : Int) = ((x &&& y : Nat) : Int) := by
 unfold andI
 show IntKind.i64.wrap (((BitVec.ofInt 64 (x : Int) &&& BitVec.ofInt 64 (y : Int)).toNat : Nat) : Int) = _
 rw [BitVec.ofInt_natCast, BitVec.ofInt_natCast]
 have : (BitVec.ofNat 64 x &&& BitVec.ofNat 64 y).toNat = x &&& y := by
  rw [BitVec.toNat_and, BitVec.toNat_ofNat, BitVec.toNat_ofNat, Nat.mod_eq_of_lt (by omega), Nat.mod_eq_of_lt (by omega)]
 rw [this]
 exact wrap_lo (and_lt62 hx)
theorem orI_nat {x y : Nat} (hx : x < 2 ^ 62) (hy : y < 2 ^ 62) : orI (x : Int) (y : Int) = ((x ||| y : Nat) : Int) := by
 unfold orI
 show IntKind.i64.wrap (((BitVec.ofInt 64 (x : Int) ||| BitVec.ofInt 64 (y : Int)).toNat : Nat) : Int) = _
 rw [BitVec.ofInt_natCast, BitVec.ofInt_natCast]
 have : (BitVec.ofNat 64 x ||| BitVec.ofNat 64 y).toNat = x ||| y := by
  rw [BitVec.toNat_or, BitVec.toNat_ofNat, BitVec.toNat_ofNat, Nat.mod_eq_of_lt (by omega), Nat.mod_eq_of_lt (by omega)]
 rw [this]
 exact wrap_lo (Nat.or_lt_two_pow hx hy)
/-- All of one is in the other. -/
def Sub (x y : Nat) : Prop := ∀ i, x.testBit i = true → y.testBit i = true
theorem Sub.and {x y : Nat} (h : Sub x y) : x &&& y = x := by
 apply Nat.eq_of_testBit_eq
 intro i
 rw [Nat.testBit_and]
 cases hb : x.testBit i with
 | false => rfl
 | true => rw [h i hb]; rfl
theorem Sub.le {x y : Nat} (h : Sub x y) : x ≤ y := by
 have := h.and
 rw [← this]; exact Nat.and_le_right
/-- What is in the one and not in the other. -/
def sub (x y : Nat) : Nat := x ^^^ (x &&& y)
theorem sub_bit (x y i : Nat) : (sub x y).testBit i = (x.testBit i && !y.testBit i) := by
 unfold sub
 rw [Nat.testBit_xor, Nat.testBit_and]
 cases x.testBit i <;> cases y.testBit i <;> rfl
theorem sub_Sub (x y : Nat) : Sub (sub x y) x := fun i hi => by
 rw [sub_bit, Bool.and_eq_true] at hi; exact hi.1
theorem sub_le (x y : Nat) : sub x y ≤ x := (sub_Sub x y).le
theorem andNI_nat {x y : Nat} (hx : x < 2 ^ 62) (hy : y < 2 ^ 62) : andNI (x : Int) (y : Int) = ((sub x y : Nat) : Int) := by
 unfold andNI
 show IntKind.i64.wrap (((BitVec.ofInt 64 (x : Int) &&& ~~~ BitVec.ofInt 64 (y : Int)).toNat : Nat) : Int) = _
 rw [BitVec.ofInt_natCast, BitVec.ofInt_natCast]
 have : (BitVec.ofNat 64 x &&& ~~~ BitVec.ofNat 64 y).toNat = sub x y := by
  apply Nat.eq_of_testBit_eq
  intro i
  rw [BitVec.toNat_and, Nat.testBit_and, sub_bit, BitVec.testBit_toNat, BitVec.testBit_toNat, BitVec.getLsbD_not, BitVec.getLsbD_ofNat, BitVec.getLsbD_ofNat]
  by_cases hi : i < 64
  ·simp [hi]
  ·have : x.testBit i = false := Nat.testBit_lt_two_pow (Nat.lt_of_lt_of_le hx (Nat.pow_le_pow_right (by omega) (by omega)))
   simp [hi, this]
 rw [this]
 exact wrap_lo (Nat.lt_of_le_of_lt (sub_le x y) hx)
theorem shlI_nat {k : Nat} (h : k < 62) : shlI 1 (k : Int) = ((2 ^ k : Nat) : Int) := by
 unfold shlI
 rw [Int.toNat_natCast, Nat.min_eq_left (by omega), Int.one_mul]
 have h2 : (2 : Nat) ^ k < 2 ^ 62 := Nat.pow_lt_pow_right (by omega) h
 rw [show ((2 : Int) ^ k) = ((2 ^ k : Nat) : Int) from by push_cast; rfl]
 generalize 2 ^ k = z at h2 ⊢
 exact wr_in (by omega)
theorem bit_shr {x k : Nat} (hx : x < 2 ^ 62) (hk : k < 62) : andI (shrI (x : Int) (k : Int)) 1 = (if x.testBit k then 1 else 0) := by
 have e : shrI (x : Int) (k : Int) = ((x >>> k : Nat) : Int) := by
  unfold shrI
  rw [Int.toNat_natCast, Nat.min_eq_left (by omega), Nat.shiftRight_eq_div_pow]
  rw [Int.fdiv_eq_ediv_of_nonneg _ (by exact Int.pow_nonneg (by omega))]
  push_cast; rfl
 have hl : x >>> k < 2 ^ 62 := by rw [Nat.shiftRight_eq_div_pow]; exact Nat.lt_of_le_of_lt (Nat.div_le_self _ _) hx
 rw [e, show (1 : Int) = ((1 : Nat) : Int) from rfl, andI_nat hl (by omega), Nat.testBit]
 rw [Nat.and_comm 1]
 have : (x >>> k) &&& 1 = 0 ∨ (x >>> k) &&& 1 = 1 := by rw [Nat.and_one_is_mod]; omega
 rcases this with h | h <;> simp [h]
theorem or_pow_bit (x k i : Nat) : (x ||| 2 ^ k).testBit i = (x.testBit i || decide (k = i)) := by
 rw [Nat.testBit_or, Nat.testBit_two_pow]
theorem sub_lt {x y n : Nat} (hx : x < 2 ^ n) : sub x y < 2 ^ n := Nat.lt_of_le_of_lt (sub_le x y) hx
theorem nz_bit {x : Nat} (h : x ≠ 0) : ∃ i, x.testBit i = true := by
 apply Classical.byContradiction
 intro hc
 apply h
 apply Nat.eq_of_testBit_eq
 intro i
 rw [Nat.zero_testBit]
 cases hb : x.testBit i with
 | false => rfl
 | true => exact absurd ⟨i, hb⟩ hc
theorem bit_lt {x n i : Nat} (hx : x < 2 ^ n) (h : x.testBit i = true) : i < n := by
 apply Classical.byContradiction
 intro hc
 have : x.testBit i = false := Nat.testBit_lt_two_pow (Nat.lt_of_lt_of_le hx (Nat.pow_le_pow_right (by omega) (by omega)))
 rw [h] at this; cases this
theorem and_zero_iff {x y : Nat} : x &&& y = 0 ↔ ∀ i, x.testBit i = true → y.testBit i = false := by
 constructor
 ·intro h i hi
  have := congrArg (·.testBit i) h
  simp only [Nat.testBit_and, Nat.zero_testBit, hi, Bool.true_and] at this
  exact this
 ·intro h
  apply Nat.eq_of_testBit_eq
  intro i
  rw [Nat.testBit_and, Nat.zero_testBit]
  cases hb : x.testBit i with
  | false => rfl
  | true => rw [h i hb]; rfl
end Go.Proofs.YtbfjekmefcpkmaaDoor

set_option linter.unusedSimpArgs false
set_option linter.unusedVariables false
set_option linter.unusedSectionVars false
namespace Go.Proofs.YtbfjekmefcpkmaaDoor
open Go.RowKit

section
variable {A B : Nat → Nat → Bool} {n : Nat}
/-- A set that may be the next track when others are left. -/
structure Fit (A B : Nat → Nat → Bool) (left set : Nat) : Prop where
 sb : Sub set left
 nz : set ≠ 0
 up : ∀ i k, set.testBit i = true → left.testBit k = true → B k i = false
 ap : ∀ i k, set.testBit i = true → set.testBit k = true → A i k = false
inductive Tk (A B : Nat → Nat → Bool) : Nat → Nat → Prop
 | z : Tk A B 0 0
 | s {left set m : Nat} : Fit A B left set → Tk A B (sub left set) m → Tk A B left (m + 1)
def bitsL (n s : Nat) : List Nat := (List.range n).filter fun i => s.testBit i
theorem mem_bitsL {n s i : Nat} : i ∈ bitsL n s ↔ i < n ∧ s.testBit i = true := by simp [bitsL]
theorem bitsL_sorted (n s : Nat) : (bitsL n s).Pairwise (· < ·) := List.pairwise_lt_range.filter _
def cnt (n s : Nat) : Nat := (bitsL n s).length
theorem cnt_le (n s : Nat) : cnt n s ≤ n := by
 have := List.length_filter_le (fun i => s.testBit i) (List.range n)
 rwa [List.length_range] at this
theorem filter_lt {α : Type} {p q : α → Bool} : ∀ {l : List α}, (∀ x, p x = true → q x = true) → (∃ x ∈ l, q x = true ∧ p x = false) → (l.filter p).length < (l.filter q).length
 | [], _, h => by obtain ⟨x, hx, _⟩ := h; cases hx
 | a :: l, hpq, h => by
  have hle : (l.filter p).length ≤ (l.filter q).length := by
   clear h
   induction l with
   | nil => simp
   | cons b l ih =>
    simp only [List.filter_cons]
    cases hp : p b with
    | true => rw [hpq b hp]; simp; exact ih
    | false => cases hq : q b <;> simp <;> omega
  obtain ⟨x, hx, hq, hp⟩ := h
  simp only [List.filter_cons]
  rcases List.mem_cons.1 hx with rfl | hx
  ·rw [hp, hq]; simp; omega
  ·have ih := filter_lt hpq ⟨x, hx, hq, hp⟩
   cases hp' : p a with
   | true => rw [hpq a hp']; simp; exact ih
   | false => cases hq' : q a <;> simp <;> omega
theorem cnt_sub {left set : Nat} (h : Fit A B left set) (hl : left < 2 ^ n) : cnt n (sub left set) < cnt n left := by
 obtain ⟨i, hi⟩ := nz_bit h.nz
 have hli := h.sb i hi
 refine filter_lt (fun x hx => sub_Sub left set x hx) ⟨i, List.mem_range.2 (bit_lt hl hli), hli, ?_⟩
 rw [sub_bit, hi]; simp
theorem Tk.le {left m : Nat} (h : Tk A B left m) : left < 2 ^ n → m ≤ cnt n left := by
 induction h with
 | z => intro _; exact Nat.zero_le _
 | s hf _ ih =>
  intro hl
  have := ih (sub_lt hl)
  have := cnt_sub hf hl
  omega
theorem Tk.le_n {left m : Nat} (h : Tk A B left m) (hl : left < 2 ^ n) : m ≤ n := Nat.le_trans (h.le hl) (cnt_le _ _)
/-- The fewest tracks; n + 1 where none are enough. -/
structure IsL (A B : Nat → Nat → Bool) (n left v : Nat) : Prop where
 lo : ∀ m, Tk A B left m → v ≤ m
 is : v ≤ n → Tk A B left v
 hi : v ≤ n + 1
theorem IsL.uniq {left v u : Nat} (h : IsL A B n left v) (g : IsL A B n left u) : v = u := by
 have h3 := h.hi
 have g3 := g.hi
 by_cases hv : v ≤ n
 ·have := g.lo _ (h.is hv)
  have := h.lo _ (g.is (by omega))
  omega
 ·by_cases hu : u ≤ n
  ·have := h.lo _ (g.is hu)
   omega
  ·omega
theorem Tk.zero {m : Nat} (h : Tk A B 0 m) : m = 0 := by
 cases h with
 | z => rfl
 | s hf _ =>
  obtain ⟨i, hi⟩ := nz_bit hf.nz
  have := hf.sb i hi
  rw [Nat.zero_testBit] at this; cases this
theorem IsL.zero : IsL A B n 0 0 := ⟨fun _ _ => Nat.zero_le _, fun _ => .z, Nat.zero_le _⟩
theorem IsL.rec' {left v : Nat} (h0 : left ≠ 0) (h1 : ∀ c, Fit A B left c → ∃ u, IsL A B n (sub left c) u ∧ v ≤ u + 1) (h2 : v ≤ n → ∃ c u, Fit A B left c ∧ IsL A B n (sub left c) u ∧ v = u + 1) (h3 : v ≤ n + 1) : IsL A B n left v := by
 refine ⟨fun m hm => ?_, fun hv => ?_, h3⟩
 ·cases hm with
  | z => exact absurd rfl h0
  | s hf ht =>
   obtain ⟨u, hu, hvu⟩ := h1 _ hf
   have := hu.lo _ ht
   omega
 ·obtain ⟨c, u, hf, hu, rfl⟩ := h2 hv
  exact .s hf (hu.is (by omega))
/-- What is best to come first. -/
structure Gd (A B : Nat → Nat → Bool) (n left c : Nat) : Prop where
 fit : Fit A B left c
 val : ∃ u, IsL A B n (sub left c) u ∧ IsL A B n left (u + 1)
def lx : List Nat → List Nat → Bool
 | [], [] => false
 | [], _ :: _ => true
 | _ :: _, [] => false
 | a :: s, b :: t => if a = b then lx s t else decide (a < b)
theorem lx_asymm : ∀ {s t : List Nat}, lx s t = true → lx t s = false
 | [], [], h => by simp [lx] at h
 | [], _ :: _, h => by simp [lx]
 | _ :: _, [], h => by simp [lx] at h
 | a :: s, b :: t, h => by
  simp only [lx] at h ⊢
  by_cases e : a = b
  ·rw [if_pos e] at h; rw [if_pos e.symm]; exact lx_asymm h
  ·rw [if_neg e] at h; rw [if_neg (fun h => e h.symm)]
   simp only [decide_eq_true_eq] at h
   simp only [decide_eq_false_iff_not]; omega
theorem lx_app : ∀ (c s t : List Nat), lx (c ++ s) (c ++ t) = lx s t
 | [], s, t => rfl
 | a :: c, s, t => by simp only [List.cons_append, lx, if_true]; exact lx_app c s t
theorem lx_pre : ∀ (c : List Nat) {t : List Nat}, t ≠ [] → lx c (c ++ t) = true
 | [], t, h => by
  cases t with
  | nil => exact absurd rfl h
  | cons => rfl
 | a :: c, t, h => by simp only [List.cons_append, lx, if_true]; exact lx_pre c h
/-- .. and the least of those. -/
structure Bst (A B : Nat → Nat → Bool) (n left c : Nat) : Prop where
 gd : Gd A B n left c
 lst : ∀ d, Gd A B n left d → d ≠ c → lx (bitsL n c) (bitsL n d) = true
theorem Bst.uniq {left c d : Nat} (h : Bst A B n left c) (g : Bst A B n left d) : c = d := by
 apply Classical.byContradiction
 intro e
 have h1 := h.lst d g.gd (fun h => e h.symm)
 have h2 := g.lst c h.gd e
 rw [lx_asymm h1] at h2; cases h2
inductive Chain (A B : Nat → Nat → Bool) (n : Nat) : Nat → List Nat → Prop
 | z : Chain A B n 0 []
 | s {left c : Nat} {r : List Nat} : Bst A B n left c → Chain A B n (sub left c) r → Chain A B n left (c :: r)
theorem Fit.left_nz {left c : Nat} (h : Fit A B left c) : left ≠ 0 := by
 obtain ⟨i, hi⟩ := nz_bit h.nz
 intro e
 have := h.sb i hi
 rw [e, Nat.zero_testBit] at this; cases this
theorem Chain.uniq {left : Nat} {r : List Nat} (h : Chain A B n left r) : ∀ {q}, Chain A B n left q → r = q := by
 induction h with
 | z =>
  intro q g
  cases g with
  | z => rfl
  | s hb _ => exact absurd rfl hb.gd.fit.left_nz
 | s hb _ ih =>
  intro q g
  cases g with
  | z => exact absurd rfl hb.gd.fit.left_nz
  | s hb' g' =>
   have e := hb.uniq hb'
   subst e
   rw [ih g']
end
/-! ### The sets in their order -/
def mask (c : List Nat) : Nat := c.foldl (fun m k => m ||| 2 ^ k) 0
theorem mask_snoc (c : List Nat) (k : Nat) : mask (c ++ [k]) = mask c ||| 2 ^ k := by simp [mask, List.foldl_append]
theorem mask_bit (c : List Nat) (i : Nat) : (mask c).testBit i = decide (i ∈ c) := by
 have key : ∀ (c : List Nat) (m : Nat), (c.foldl (fun m k => m ||| 2 ^ k) m).testBit i = (m.testBit i || decide (i ∈ c)) := by
  intro c
  induction c with
  | nil => intro m; simp
  | cons k c ih =>
   intro m
   rw [List.foldl_cons, ih, or_pow_bit]
   by_cases h : k = i
   ·subst h; simp
   ·have : ¬ i = k := fun e => h e.symm
    simp [h, this]
 rw [mask, key, Nat.zero_testBit, Bool.false_or]
theorem sorted_uniq : ∀ {l m : List Nat}, l.Pairwise (· < ·) → m.Pairwise (· < ·) → (∀ x, x ∈ l ↔ x ∈ m) → l = m
 | [], [], _, _, _ => rfl
 | [], b :: m, _, _, h => absurd ((h b).2 (by simp)) (by simp)
 | a :: l, [], _, _, h => absurd ((h a).1 (by simp)) (by simp)
 | a :: l, b :: m, hl, hm, h => by
  rw [List.pairwise_cons] at hl hm
  have e : a = b := by
   rcases List.mem_cons.1 ((h a).1 (by simp)) with e | e
   ·exact e
   ·rcases List.mem_cons.1 ((h b).2 (by simp)) with e2 | e2
    ·exact e2.symm
    ·have := hm.1 a e; have := hl.1 b e2; omega
  subst e
  refine congrArg (a :: ·) (sorted_uniq hl.2 hm.2 fun x => ⟨fun hx => ?_, fun hx => ?_⟩)
  ·rcases List.mem_cons.1 ((h x).1 (List.mem_cons_of_mem _ hx)) with e | e
   ·subst e; have := hl.1 x hx; omega
   ·exact e
  ·rcases List.mem_cons.1 ((h x).2 (List.mem_cons_of_mem _ hx)) with e | e
   ·subst e; have := hm.1 x hx; omega
   ·exact e
theorem bitsL_mask {n : Nat} {c : List Nat} (hs : c.Pairwise (· < ·)) (hn : ∀ x ∈ c, x < n) : bitsL n (mask c) = c := by
 refine sorted_uniq (bitsL_sorted _ _) hs fun x => ?_
 rw [mem_bitsL, mask_bit, decide_eq_true_eq]
 exact ⟨fun h => h.2, fun h => ⟨hn x h, h⟩⟩
theorem mask_bitsL {n s : Nat} (h : s < 2 ^ n) : mask (bitsL n s) = s := by
 apply Nat.eq_of_testBit_eq
 intro i
 rw [mask_bit]
 cases hb : s.testBit i with
 | true => exact decide_eq_true (mem_bitsL.2 ⟨bit_lt h hb, hb⟩)
 | false => exact decide_eq_false fun hm => by rw [(mem_bitsL.1 hm).2] at hb; cases hb
/-- The sets that grow out of one, by what is free, in their order. -/
def subs (ap : Nat → Nat) : List Nat → List Nat → List (List Nat)
 | [], _ => []
 | k :: r, c => (if ap k &&& mask c = 0 then (c ++ [k]) :: subs ap r (c ++ [k]) else []) ++ subs ap r c
theorem subs_mem {ap : Nat → Nat} : ∀ {fr c d : List Nat}, d ∈ subs ap fr c → ∃ e, d = c ++ e ∧ e ≠ [] ∧ e.Sublist fr
 | [], c, d, h => by simp [subs] at h
 | k :: r, c, d, h => by
  simp only [subs, List.mem_append] at h
  rcases h with h | h
  ·split at h
   ·rcases List.mem_cons.1 h with rfl | h
    ·exact ⟨[k], rfl, by simp, by simp⟩
    ·obtain ⟨e, rfl, he, hs⟩ := subs_mem h
     exact ⟨k :: e, by simp, by simp, hs.cons_cons k⟩
   ·cases h
  ·obtain ⟨e, rfl, he, hs⟩ := subs_mem h
   exact ⟨e, rfl, he, hs.cons k⟩
theorem subs_sorted {ap : Nat → Nat} : ∀ {fr c : List Nat}, fr.Pairwise (· < ·) → (subs ap fr c).Pairwise fun a b => lx a b = true
 | [], c, _ => by simp [subs]
 | k :: r, c, h => by
  rw [List.pairwise_cons] at h
  simp only [subs]
  rw [List.pairwise_append]
  refine ⟨?_, subs_sorted h.2, ?_⟩
  ·split
   ·rw [List.pairwise_cons]
    refine ⟨fun d hd => ?_, subs_sorted h.2⟩
    obtain ⟨e, rfl, he, _⟩ := subs_mem hd
    exact lx_pre _ he
   ·exact List.Pairwise.nil
  ·intro a ha b hb
   obtain ⟨e, rfl, he, hs⟩ := subs_mem hb
   obtain ⟨x, e', rfl⟩ : ∃ x e', e = x :: e' := by
    cases e with
    | nil => exact absurd rfl he
    | cons x e' => exact ⟨x, e', rfl⟩
   have hx := h.1 x (hs.subset (by simp))
   have key : ∀ t : List Nat, lx ((c ++ [k]) ++ t) (c ++ x :: e') = true := fun t => by
    rw [List.append_assoc, lx_app]
    simp only [List.cons_append, lx]
    rw [if_neg (by omega)]
    exact decide_eq_true hx
   split at ha
   ·rcases List.mem_cons.1 ha with rfl | ha
    ·have := key []; rwa [List.append_nil] at this
    ·obtain ⟨e2, rfl, _, _⟩ := subs_mem ha
     exact key e2
   ·cases ha
section
variable {A : Nat → Nat → Bool} {ap : Nat → Nat}
def okS (A : Nat → Nat → Bool) (c : List Nat) : Prop := ∀ i ∈ c, ∀ k ∈ c, A i k = false
theorem subs_ok {full : List Nat} (hA : ∀ i k, A i k = A k i) (hI : ∀ i, A i i = false) (hap2 : ∀ k i, k ∈ full → A k i = true → i ∈ full → (ap k).testBit i = true) : ∀ {fr c d : List Nat}, (∀ x ∈ fr, x ∈ full) → (∀ x ∈ c, x ∈ full) → okS A c → d ∈ subs ap fr c → okS A d
 | [], c, d, _, _, _, h => by simp [subs] at h
 | k :: r, c, d, hfr, hcf, hc, h => by
  simp only [subs, List.mem_append] at h
  have hr : ∀ x ∈ r, x ∈ full := fun x hx => hfr x (List.mem_cons_of_mem _ hx)
  rcases h with h | h
  ·split at h
   ·rename_i h0
    have hk : okS A (c ++ [k]) := by
     have h1 : ∀ i ∈ c, A k i = false := fun i hi => by
      cases hb : A k i with
      | false => rfl
      | true =>
       have := and_zero_iff.1 h0 i (hap2 k i (hfr k (by simp)) hb (hcf i hi))
       rw [mask_bit] at this
       exact absurd hi (of_decide_eq_false this)
     intro i hi0 j hj0
     rcases List.mem_append.1 hi0 with hi | hi <;> rcases List.mem_append.1 hj0 with hj | hj
     ·exact hc i hi j hj
     ·rw [List.mem_singleton.1 hj, hA]; exact h1 i hi
     ·rw [List.mem_singleton.1 hi]; exact h1 j hj
     ·rw [List.mem_singleton.1 hi, List.mem_singleton.1 hj]; exact hI _
    rcases List.mem_cons.1 h with rfl | h
    ·exact hk
    ·exact subs_ok hA hI hap2 hr (fun x hx => by
      rcases List.mem_append.1 hx with hx | hx
      ·exact hcf x hx
      ·rw [List.mem_singleton] at hx; subst hx; exact hfr _ (by simp)) hk h
   ·cases h
  ·exact subs_ok hA hI hap2 hr hcf hc h
theorem subs_all : ∀ {fr c e : List Nat}, (∀ k ∈ fr, ∀ i, (ap k).testBit i = true → A k i = true) → e ≠ [] → e.Sublist fr → okS A (c ++ e) → c ++ e ∈ subs ap fr c
 | [], c, e, _, he, hs, _ => absurd (List.sublist_nil.1 hs) he
 | k :: r, c, e, hap, he, hs, ho => by
  simp only [subs, List.mem_append]
  cases hs with
  | cons _ hs => exact .inr (subs_all (fun k hk => hap k (List.mem_cons_of_mem _ hk)) he hs ho)
  | @cons_cons e' _ _ hs =>
   have h0 : ap k &&& mask c = 0 := and_zero_iff.2 fun i hi => by
    rw [mask_bit]
    refine decide_eq_false fun hic => ?_
    have h1 := hap k (by simp) i hi
    rw [ho k (by simp) i (by simp [hic])] at h1; cases h1
   refine .inl ?_
   rw [if_pos h0]
   by_cases e0 : e' = []
   ·subst e0; exact List.mem_cons_self
   ·refine List.mem_cons_of_mem _ ?_
    have := subs_all (fun k hk => hap k (List.mem_cons_of_mem _ hk)) (fr := r) (c := c ++ [k]) e0 hs (by simpa using ho)
    simpa using this
end
end Go.Proofs.YtbfjekmefcpkmaaDoor

set_option linter.unusedSimpArgs false
set_option linter.unusedVariables false
set_option linter.unusedSectionVars false
namespace Go.Proofs.YtbfjekmefcpkmaaDoor
open Go.RowKit

abbrev Mem := List (Int × Int)
theorem mget_mup' {κ V : Type} [DecidableEq κ] (m : List (κ × V)) (k k' : κ) (x : V) : mget (mup m k x) k' = if k' = k then some x else mget m k' := by
 unfold mup
 cases h : mget m k with
 | some y =>
  simp only [Option.isSome_some, if_true]
  rw [mget_mset, h]; rfl
 | none =>
  simp only [Option.isSome_none, Bool.false_eq_true, if_false]
  unfold mget at h ⊢
  rw [List.find?_append]
  by_cases e : k' = k
  ·subst e
   rw [if_pos rfl]
   rw [Option.map_eq_none_iff] at h
   rw [h]; simp
  ·rw [if_neg e]
   have : List.find? (fun p => decide (p.1 = k')) [(k, x)] = none := by
    rw [List.find?_cons, decide_eq_false (fun h => e h.symm)]; rfl
   rw [this]; simp
def stepG (R : Int → Int → Int × Mem → Option (Int × Mem)) (p1 : Int) (free ap : List Int) (s1 : Int × Int × Mem) : Option (Ctl (Int × Int × Mem) (Int × Mem)) :=
 match s1 with | (x1, x2, l1) => (bif decide (x1 < ((free.length : Int))) then Option.bind (Option.bind (geti free x1) fun x3 => Option.bind (geti ap x3) fun x4 => (bif (andI x4 p1) == 0 then Option.bind (geti free x1) fun x5 => Option.bind (p0C x5) fun u1 => Option.bind (R (wr (x1 + 1)) (orI p1 (shlI 1 x5)) (x2, l1)) fun y1 => some ((y1.1, y1.2)) else some ((x2, l1)))) fun (s2 : Int × Mem) => match s2 with | (x6, l2) => some (Ctl.next ((wr (x1 + 1), x6, l2))) else some (Ctl.out ((x2, l1))))
noncomputable def grw (dO : Int → Int × Mem → Option (Int × Mem)) (free ap : List Int) : Nat → Int → Int → Int × Mem → Option (Int × Mem)
 | 0, _, _, _ => none
 | f + 1, p0, p1, st => Option.bind (Option.bind ((bif p1 != 0 then Option.bind (dO p1 st) fun y2 => some ((y2.1, y2.2)) else some ((st.1, st.2)))) fun (s3 : Int × Mem) => match s3 with | (x7, l3) => Option.bind (loopM (stepG (grw dO free ap f) p1 free ap) ((p0, x7, l3))) fun (r1 : Int × Mem) => match r1 with | (x8, l4) => some ((x8, l4))) fun (s4 : Int × Mem) => match s4 with | (x9, l5) => some ((x9, l5))
theorem grwF (R : List Int → List Int → Int → Mem → Option (Int × Mem)) (f : Nat) : ∀ (p0 p1 q : Int) (a b : List Int) (q2 : Int) (m : Mem) (fr c d : List Int),
  m_iOrderFirst1_f R f p0 p1 q a b q2 m fr c d = grw (fun p st => m_iOrderFewes1 R p st.1 a b q2 st.2) fr c f p0 p1 (q, m) := by
 induction f with
 | zero => intros; rfl
 | succ f ih =>
  intro p0 p1 q a b q2 m fr c d
  have e : m_iOrderFirst1_f_s2 (m_iOrderFirst1_f R f) p1 a b q2 fr c d = stepG (grw (fun p st => m_iOrderFewes1 R p st.1 a b q2 st.2) fr c f) p1 fr c := by
   funext s
   obtain ⟨x1, x2, l1⟩ := s
   unfold m_iOrderFirst1_f_s2 stepG
   simp only [ih]
  show m_iOrderFirst1_f_b R _ p0 p1 q a b q2 m fr c d = _
  unfold m_iOrderFirst1_f_b
  rw [e]; rfl
theorem grwB (f : Nat) : ∀ (p0 p1 q : Int) (a b : List Int) (q2 : Int) (m : Mem) (q4 : Int) (fr c d : List Int),
  m_iOrderFirst_f f p0 p1 q a b q2 m q4 fr c d = grw (fun p st => m_iOrderBest1 p st.1 a b q2 st.2 q4) fr c f p0 p1 (q, m) := by
 induction f with
 | zero => intros; rfl
 | succ f ih =>
  intro p0 p1 q a b q2 m q4 fr c d
  have e : m_iOrderFirst_f_s2 (m_iOrderFirst_f f) p1 a b q2 q4 fr c d = stepG (grw (fun p st => m_iOrderBest1 p st.1 a b q2 st.2 q4) fr c f) p1 fr c := by
   funext s
   obtain ⟨x1, x2, l1⟩ := s
   unfold m_iOrderFirst_f_s2 stepG
   simp only [ih]
  show m_iOrderFirst_f_b _ p0 p1 q a b q2 m q4 fr c d = _
  unfold m_iOrderFirst_f_b
  rw [e]; rfl
def foldD (dO : Int → Int × Mem → Option (Int × Mem)) : Int × Mem → List Nat → Option (Int × Mem)
 | st, [] => some st
 | st, t :: r => Option.bind (dO (t : Int) st) fun st' => foldD dO st' r
theorem foldD_app (dO : Int → Int × Mem → Option (Int × Mem)) : ∀ (a b : List Nat) (st st' : Int × Mem), foldD dO st (a ++ b) = some st' → ∃ s1, foldD dO st a = some s1 ∧ foldD dO s1 b = some st'
 | [], b, st, st', h => ⟨st, rfl, h⟩
 | t :: a, b, st, st', h => by
  simp only [List.cons_append, foldD] at h ⊢
  cases hd : dO (t : Int) st with
  | none => rw [hd] at h; cases h
  | some s0 =>
   rw [hd] at h
   obtain ⟨s1, h1, h2⟩ := foldD_app dO a b s0 st' h
   exact ⟨s1, h1, h2⟩
/-- Masks as the program holds them. -/
def cI (l : List Nat) : List Int := l.map fun (n : Nat) => (n : Int)
theorem geti_cI {l : List Nat} {i : Nat} (h : i < l.length) : geti (cI l) (i : Int) = some ((l[i] : Nat) : Int) := by
 unfold cI
 rw [geti_nat, List.getElem?_map, List.getElem?_eq_getElem h]; rfl
theorem cI_len (l : List Nat) : (cI l).length = l.length := by simp [cI]
theorem geti_rg {n : Nat} {g : Nat → Nat} {i : Nat} (h : i < n) : geti (cI ((List.range n).map g)) (i : Int) = some ((g i : Nat) : Int) := by
 rw [geti_cI (by simpa using h)]; simp
theorem nat_beq0 (x : Nat) : (((x : Nat) : Int) == 0) = decide (x = 0) := by
 by_cases h : x = 0
 ·subst h; rfl
 ·rw [decide_eq_false h, beq_eq_false_iff_ne]; omega
theorem mask_lt {n : Nat} {c : List Nat} (h : ∀ x ∈ c, x < n) : mask c < 2 ^ n := by
 apply Nat.lt_pow_two_of_testBit
 intro i hi
 rw [mask_bit]
 exact decide_eq_false fun hm => by have := h i hm; omega
theorem pow62 {x n : Nat} (hn : n ≤ 61) (h : x < 2 ^ n) : x < 2 ^ 62 := Nat.lt_of_lt_of_le h (Nat.pow_le_pow_right (by omega) (by omega))
theorem mask_nz {c : List Nat} (h : c ≠ []) : mask c ≠ 0 := by
 obtain ⟨x, r, rfl⟩ : ∃ x r, c = x :: r := by
  cases c with
  | nil => exact absurd rfl h
  | cons x r => exact ⟨x, r, rfl⟩
 intro e
 have := mask_bit (x :: r) x
 rw [e, Nat.zero_testBit] at this
 simp at this
section
variable {n : Nat} {apN : Nat → Nat} {fr : List Nat}
theorem grw_fold (dO : Int → Int × Mem → Option (Int × Mem)) (hn : n ≤ 61) (hap : ∀ k, k < n → apN k < 2 ^ n) (hfr : ∀ x ∈ fr, x < n) (hl : fr.length ≤ n) :
  ∀ (f a : Nat) (c : List Nat) (st st' : Int × Mem), fr.length - a < f → a ≤ fr.length → (∀ x ∈ c, x < n) → foldD dO st ((if c = [] then [] else [mask c]) ++ (subs apN (fr.drop a) c).map mask) = some st' →
   grw dO (cI fr) (cI ((List.range n).map apN)) f (a : Int) ((mask c : Nat) : Int) st = some st'
 | 0, a, c, st, st', hf, _, _, _ => by omega
 | f + 1, a, c, st, st', hf, ha, hc, h => by
  obtain ⟨s1, h1, h2⟩ := foldD_app _ _ _ _ _ h
  have e1 : (bif ((mask c : Nat) : Int) != 0 then Option.bind (dO ((mask c : Nat) : Int) st) fun y2 => some ((y2.1, y2.2)) else some ((st.1, st.2))) = some s1 := by
   by_cases e : c = []
   ·subst e
    rw [if_pos rfl] at h1
    cases h1
    rfl
   ·rw [if_neg e] at h1
    have : (((mask c : Nat) : Int) != 0) = true := by
     have := mask_nz e
     rw [bne_iff_ne]; omega
    rw [this]
    simp only [foldD] at h1
    show Option.bind (dO ((mask c : Nat) : Int) st) _ = some s1
    cases hd : dO ((mask c : Nat) : Int) st with
    | none => rw [hd] at h1; cases h1
    | some s0 => rw [hd] at h1; exact h1
  have loop : ∀ (d i : Nat) (u u' : Int × Mem), fr.length - i = d → a ≤ i → i ≤ fr.length → foldD dO u ((subs apN (fr.drop i) c).map mask) = some u' →
    loopM (stepG (grw dO (cI fr) (cI ((List.range n).map apN)) f) ((mask c : Nat) : Int) (cI fr) (cI ((List.range n).map apN))) ((i : Int), u.1, u.2) = some u' := by
   intro d
   induction d with
   | zero =>
    intro i u u' hd hai hi hu
    have : i = fr.length := by omega
    subst this
    rw [List.drop_length] at hu
    cases hu
    refine loopM_out ?_
    unfold stepG
    dsimp only
    rw [bif_f (by rw [cI_len]; simp)]
   | succ d ih =>
    intro i u u' hd hai hi hu
    have hil : i < fr.length := by omega
    rw [List.drop_eq_getElem_cons hil] at hu
    simp only [subs] at hu
    rw [List.map_append] at hu
    obtain ⟨u1, hu1, hu2⟩ := foldD_app _ _ _ _ _ hu
    have hk : fr[i] < n := hfr _ (List.getElem_mem hil)
    have hm : mask c < 2 ^ n := mask_lt hc
    have step : stepG (grw dO (cI fr) (cI ((List.range n).map apN)) f) ((mask c : Nat) : Int) (cI fr) (cI ((List.range n).map apN)) ((i : Int), u.1, u.2) = some (.next (((i + 1 : Nat) : Int), u1.1, u1.2)) := by
     unfold stepG
     have ew : wr ((i : Int) + 1) = ((i + 1 : Nat) : Int) := by rw [wr_in (by omega)]; push_cast; rfl
     dsimp only
     rw [bif_t (by rw [cI_len]; simpa using hil)]
     simp only [geti_cI hil, geti_rg hk, Option.bind_some, andI_nat (pow62 hn (hap _ hk)) (pow62 hn hm), nat_beq0, p0C_ok (Int.natCast_nonneg _), shlI_nat (show fr[i] < 62 by omega), ew]
     by_cases h0 : apN fr[i] &&& mask c = 0
     ·rw [if_pos h0] at hu1
      rw [bif_t (decide_eq_true h0)]
      rw [orI_nat (pow62 hn hm) (pow62 hn (Nat.pow_lt_pow_right (by omega) hk)), ← mask_snoc]
      have := grw_fold dO hn hap hfr hl f (i + 1) (c ++ [fr[i]]) u u1 (by omega) (by omega) (fun x hx => by
       rcases List.mem_append.1 hx with hx | hx
       ·exact hc x hx
       ·rw [List.mem_singleton.1 hx]; exact hk) (by
       rw [if_neg (by simp)]
       exact hu1)
      rw [show (u.1, u.2) = u from rfl, this]
      rfl
     ·rw [if_neg h0] at hu1
      rw [bif_f (decide_eq_false h0)]
      cases hu1
      rfl
    rw [loopM_next step]
    exact ih (i + 1) u1 u' (by omega) (by omega) (by omega) hu2
  have e2 := loop _ a s1 st' rfl (Nat.le_refl _) ha h2
  show Option.bind (Option.bind _ _) _ = _
  rw [e1]
  simp only [Option.bind_some]
  rw [e2]
  rfl
end
end Go.Proofs.YtbfjekmefcpkmaaDoor

set_option linter.unusedSimpArgs false
set_option linter.unusedVariables false
set_option linter.unusedSectionVars false
namespace Go.Proofs.YtbfjekmefcpkmaaDoor
open Go.RowKit

/-- Things, as bits and as relations. -/
structure Ord (A B : Nat → Nat → Bool) (n : Nat) (apN ahN : Nat → Nat) : Prop where
 sym : ∀ i k, A i k = A k i
 irr : ∀ i, A i i = false
 ap : ∀ k i, k < n → i < n → (apN k).testBit i = A k i
 apl : ∀ k, k < n → apN k < 2 ^ n
 ah : ∀ k i, k < n → i < n → (ahN k).testBit i = B i k
 ahl : ∀ k, k < n → ahN k < 2 ^ n
 hn : n ≤ 60
def rg (n : Nat) (g : Nat → Nat) : List Int := cI ((List.range n).map g)
theorem rg_len (n : Nat) (g : Nat → Nat) : (rg n g).length = n := by unfold rg; rw [cI_len]; simp
section
variable {A B : Nat → Nat → Bool} {n : Nat} {apN ahN : Nat → Nat}
def freeL (n : Nat) (ahN : Nat → Nat) (left k : Nat) : List Nat := (List.range k).filter fun k => left.testBit k && decide (ahN k &&& left = 0)
theorem mem_free {left k i : Nat} : i ∈ freeL n ahN left k ↔ i < k ∧ left.testBit i = true ∧ ahN i &&& left = 0 := by simp [freeL]
theorem free_sorted (left k : Nat) : (freeL n ahN left k).Pairwise (· < ·) := List.pairwise_lt_range.filter _
theorem free_len (left k : Nat) : (freeL n ahN left k).length ≤ k := by
 have := List.length_filter_le (fun k => left.testBit k && decide (ahN k &&& left = 0)) (List.range k)
 rwa [List.length_range] at this
theorem free_eq (O : Ord A B n apN ahN) {left : Nat} (hl : left < 2 ^ n) :
  loopM (m_iOrderFirst3_s1 (rg n apN) (rg n ahN) (left : Int)) ((0, ([] : List Int))) = some (cI (freeL n ahN left n)) := by
 have hn := O.hn
 refine loopM_val _ n (fun k s => s = ((k : Int), cI (freeL n ahN left k))) rfl (fun k s hk h => ?_) (fun s h => ?_)
 ·subst h
  refine .inl ⟨_, ?_, rfl⟩
  unfold m_iOrderFirst3_s1
  dsimp only
  have ew : wr ((k : Int) + 1) = ((k + 1 : Nat) : Int) := by rw [wr_in (by omega)]; push_cast; rfl
  have hbeq : ((if left.testBit k then (1 : Int) else 0) == 1) = left.testBit k := by cases left.testBit k <;> rfl
  have hfl : freeL n ahN left (k + 1) = freeL n ahN left k ++ (if left.testBit k && decide (ahN k &&& left = 0) then [k] else []) := by
   unfold freeL
   rw [List.range_succ, List.filter_append]
   congr 1
   simp only [List.filter_cons, List.filter_nil]
  rw [bif_t (by rw [rg_len]; simpa using hk)]
  rw [p0C_ok (Int.natCast_nonneg _), bit_shr (pow62 (by omega) hl) (by omega)]
  simp only [Option.bind_some, hbeq, show geti (rg n ahN) (k : Int) = some ((ahN k : Nat) : Int) from geti_rg hk, andI_nat (pow62 (n := n) (by omega) (O.ahl k hk)) (pow62 (by omega) hl), nat_beq0, ew]
  rw [hfl]
  cases hb : left.testBit k with
  | false => simp
  | true =>
   by_cases h0 : ahN k &&& left = 0
   ·have hap : apC (cI (freeL n ahN left k)) [(k : Int)] = some () := by
     unfold apC chk
     have := free_len (n := n) (ahN := ahN) left k
     rw [cI_len]
     have hlim : lim = 1099511627776 := rfl
     simp; omega
    rw [decide_eq_true h0]
    simp only [cond_true, hap, Option.bind_some, Bool.and_true, Bool.true_and, if_true]
    unfold cI
    rw [List.map_append]; rfl
   ·simp [h0]
 ·subst h
  unfold m_iOrderFirst3_s1
  dsimp only
  rw [bif_f (by rw [rg_len]; simp)]
theorem s1_same : @m_iOrderFirst2_s1 = @m_iOrderFirst3_s1 := rfl
/-- The sets that may come first, in their order. -/
def cand (n : Nat) (apN ahN : Nat → Nat) (left : Nat) : List Nat := (subs apN (freeL n ahN left n) []).map mask
theorem okS_nil {A : Nat → Nat → Bool} : okS A [] := fun _ h => by simp at h
theorem mem_cand (O : Ord A B n apN ahN) {left : Nat} (hl : left < 2 ^ n) {t : Nat} : t ∈ cand n apN ahN left ↔ Fit A B left t := by
 constructor
 ·intro h
  obtain ⟨d, hd, rfl⟩ := List.mem_map.1 h
  have hok : okS A d := subs_ok (full := freeL n ahN left n) O.sym O.irr (fun k i hk hb hi => by rw [O.ap k i (mem_free.1 hk).1 (mem_free.1 hi).1]; exact hb) (fun x hx => hx) (fun x hx => by simp at hx) okS_nil hd
  obtain ⟨e, e0, he, hs⟩ := subs_mem hd
  rw [List.nil_append] at e0
  rw [e0] at hok ⊢
  have hm : ∀ i, (mask e).testBit i = true → i ∈ freeL n ahN left n := fun i hi => hs.subset (by rw [mask_bit] at hi; exact of_decide_eq_true hi)
  refine ⟨fun i hi => (mem_free.1 (hm i hi)).2.1, mask_nz he, fun i k hi hk => ?_, fun i k hi hk => ?_⟩
  ·have h1 := mem_free.1 (hm i hi)
   have := and_zero_iff.1 h1.2.2 k
   rw [O.ah i k h1.1 (bit_lt hl hk)] at this
   cases hb : B k i with
   | false => rfl
   | true => rw [this hb] at hk; cases hk
  ·rw [mask_bit] at hi hk
   exact hok i (of_decide_eq_true hi) k (of_decide_eq_true hk)
 ·intro h
  have ht : t < 2 ^ n := Nat.lt_of_le_of_lt h.sb.le hl
  refine List.mem_map.2 ⟨bitsL n t, ?_, mask_bitsL ht⟩
  have hsub : (bitsL n t).Sublist (freeL n ahN left n) := by
   have e : bitsL n t = (freeL n ahN left n).filter fun i => t.testBit i := by
    unfold bitsL freeL
    rw [List.filter_filter]
    refine List.filter_congr fun i hi => ?_
    have hin := List.mem_range.1 hi
    cases hb : t.testBit i with
    | false => simp
    | true =>
     have h0 : ahN i &&& left = 0 := and_zero_iff.2 fun k hk => by
      cases hbk : left.testBit k with
      | false => rfl
      | true =>
       have := h.up i k hb hbk
       rw [← O.ah i k hin (bit_lt hl hbk), hk] at this; cases this
     simp [h.sb i hb, h0]
   rw [e]; exact List.filter_sublist
  have hne : bitsL n t ≠ [] := fun e => by
   have := mask_bitsL ht
   rw [e] at this
   exact h.nz this.symm
  have := subs_all (A := A) (ap := apN) (c := []) (fun k hk i hi => by
   have hkn := (mem_free.1 hk).1
   rw [← O.ap k i hkn (bit_lt (O.apl k hkn) hi)]; exact hi) hne hsub (fun i hi k hk => h.ap i k (mem_bitsL.1 hi).2 (mem_bitsL.1 hk).2)
  exact this
def MemOk (A B : Nat → Nat → Bool) (n : Nat) (m : Mem) : Prop := ∀ (k : Nat) (v : Int), mget m (k : Int) = some v → ∃ u : Nat, v = u ∧ IsL A B n k u
theorem foldF (O : Ord A B n apN ahN) (R : List Int → List Int → Int → Mem → Option (Int × Mem)) {left : Nat} (hl : left < 2 ^ n)
  (hR : ∀ t m, Fit A B left t → MemOk A B n m → ∃ (u : Nat) (m' : Mem), R (rg n apN) (rg n ahN) ((sub left t : Nat) : Int) m = some ((u : Int), m') ∧ IsL A B n (sub left t) u ∧ MemOk A B n m') :
  ∀ (ts : List Nat) (b : Nat) (m : Mem), (∀ t ∈ ts, Fit A B left t) → MemOk A B n m → b ≤ n + 1 →
   ∃ (b' : Nat) (m' : Mem), foldD (fun p st => m_iOrderFewes1 R p st.1 (rg n apN) (rg n ahN) (left : Int) st.2) ((b : Int), m) ts = some ((b' : Int), m') ∧ MemOk A B n m' ∧ b' ≤ b ∧
    (∀ t ∈ ts, ∃ u, IsL A B n (sub left t) u ∧ b' ≤ u + 1) ∧ (b' < b → ∃ t ∈ ts, ∃ u, IsL A B n (sub left t) u ∧ b' = u + 1)
 | [], b, m, _, hm, hb => ⟨b, m, rfl, hm, Nat.le_refl _, fun t ht => by simp at ht, fun h => by omega⟩
 | t :: r, b, m, hts, hm, hb => by
  have hn := O.hn
  obtain ⟨u, m1, hr, hu, hm1⟩ := hR t m (hts t (by simp)) hm
  have htl : t < 2 ^ n := Nat.lt_of_le_of_lt (hts t (by simp)).sb.le hl
  have hui := hu.hi
  have hd : m_iOrderFewes1 R (t : Int) (b : Int) (rg n apN) (rg n ahN) (left : Int) m = some (((min (u + 1) b : Nat) : Int), m1) := by
   unfold m_iOrderFewes1
   rw [andNI_nat (pow62 (by omega) hl) (pow62 (by omega) htl), hr]
   simp only [Option.bind_some]
   rw [wr_in (by omega)]
   by_cases h : u + 1 < b
   ·rw [if_pos (by omega), Nat.min_eq_left (by omega)]; push_cast; rfl
   ·rw [if_neg (by omega), Nat.min_eq_right (by omega)]
  obtain ⟨b', m', h1, h2, h3, h4, h5⟩ := foldF O R hl hR r (min (u + 1) b) m1 (fun x hx => hts x (List.mem_cons_of_mem _ hx)) hm1 (by omega)
  have h3b : b' ≤ b := Nat.le_trans h3 (Nat.min_le_right _ _)
  have h3u : b' ≤ u + 1 := Nat.le_trans h3 (Nat.min_le_left _ _)
  refine ⟨b', m', ?_, h2, h3b, fun x hx => ?_, fun hlt => ?_⟩
  ·simp only [foldD, hd]; exact h1
  ·rcases List.mem_cons.1 hx with rfl | hx
   ·exact ⟨u, hu, h3u⟩
   ·exact h4 x hx
  ·by_cases hc : b' < min (u + 1) b
   ·obtain ⟨x, hx, q⟩ := h5 hc
    exact ⟨x, List.mem_cons_of_mem _ hx, q⟩
   ·exact ⟨t, by simp, u, hu, by omega⟩
theorem fewest_eq (O : Ord A B n apN ahN) : ∀ (f left : Nat) (m : Mem), left < 2 ^ n → cnt n left < f → MemOk A B n m →
  ∃ (v : Nat) (m' : Mem), m_iOrderFewes f (rg n apN) (rg n ahN) (left : Int) m = some ((v : Int), m') ∧ IsL A B n left v ∧ MemOk A B n m'
 | 0, left, m, _, h, _ => by omega
 | f + 1, left, m, hl, hc, hm => by
  have hn := O.hn
  have hok : mpC (okI (left : Int)) = some () := by
   have := pow62 (n := n) (by omega) hl
   unfold mpC
   rw [if_pos (okI_iff.2 ⟨by omega, by omega⟩)]
  show ∃ v m', m_iOrderFewes_b (m_iOrderFewes f) _ _ _ _ = _ ∧ _
  unfold m_iOrderFewes_b
  rw [nat_beq0]
  by_cases h0 : left = 0
  ·subst h0
   exact ⟨0, m, rfl, IsL.zero, hm⟩
  ·rw [bif_f (decide_eq_false h0), hok]
   simp only [Option.bind_some]
   cases hg : mget m (left : Int) with
   | some v =>
    obtain ⟨u, rfl, hu⟩ := hm left v hg
    exact ⟨u, m, by simp, hu, hm⟩
   | none =>
    simp only [Option.isSome_none, cond_false]
    obtain ⟨b', m', h1, h2, h3, h4, h5⟩ := foldF O (m_iOrderFewes f) hl (fun t m hf hm => fewest_eq O f (sub left t) m (sub_lt hl) (by have := cnt_sub hf hl; omega) hm) (cand n apN ahN left) (n + 1) m (fun t ht => (mem_cand O hl).1 ht) hm (Nat.le_refl _)
    have hg := grw_fold (n := n) (apN := apN) (fr := freeL n ahN left n) (fun p st => m_iOrderFewes1 (m_iOrderFewes f) p st.1 (rg n apN) (rg n ahN) (left : Int) st.2) (by omega) O.apl (fun x hx => (mem_free.1 hx).1) (free_len _ _) 64 0 [] (((n + 1 : Nat) : Int), m) ((b' : Int), m') (by have := free_len (n := n) (ahN := ahN) left n; omega) (Nat.zero_le _) (fun x hx => by simp at hx) (by
     rw [if_pos rfl, List.nil_append, List.drop_zero]; exact h1)
    have hbody : m_iOrderFirst3 (m_iOrderFewes f) (rg n apN) (rg n ahN) (left : Int) (wr (((rg n apN).length : Int) + 1)) (rg n apN) (rg n ahN) (left : Int) m = some ((b' : Int), m') := by
     unfold m_iOrderFirst3
     rw [free_eq O hl]
     simp only [Option.bind_some]
     rw [grwF, rg_len, wr_in (by omega)]
     have : ((n : Int) + 1) = ((n + 1 : Nat) : Int) := by push_cast; rfl
     rw [this]
     have hg' : grw (fun p st => m_iOrderFewes1 (m_iOrderFewes f) p st.1 (rg n apN) (rg n ahN) (left : Int) st.2) (cI (freeL n ahN left n)) (rg n apN) 64 0 0 (((n + 1 : Nat) : Int), m) = some ((b' : Int), m') := hg
     rw [hg']; rfl
    rw [hbody]
    simp only [Option.bind_some]
    have hL : IsL A B n left b' := IsL.rec' h0 (fun c hf => h4 c ((mem_cand O hl).2 hf)) (fun hv => by
     obtain ⟨t, ht, u, hu, e⟩ := h5 (by omega)
     exact ⟨t, u, (mem_cand O hl).1 ht, hu, e⟩) h3
    refine ⟨b', _, rfl, hL, fun k v hk => ?_⟩
    rw [mget_mup'] at hk
    split at hk
    ·rename_i e
     cases hk
     have : k = left := by omega
     subst this
     exact ⟨b', rfl, hL⟩
    ·exact h2 k v hk
end
end Go.Proofs.YtbfjekmefcpkmaaDoor

set_option linter.unusedSimpArgs false
set_option linter.unusedVariables false
set_option linter.unusedSectionVars false
namespace Go.Proofs.YtbfjekmefcpkmaaDoor
open Go.RowKit

section
variable {A B : Nat → Nat → Bool} {n : Nat} {apN ahN : Nat → Nat}
theorem foldB (O : Ord A B n apN ahN) {left : Nat} (hl : left < 2 ^ n) (want : Nat) :
  ∀ (ts : List Nat) (ch : Nat) (m : Mem), (∀ t ∈ ts, Fit A B left t) → MemOk A B n m →
   ∃ (ch' : Nat) (m' : Mem), foldD (fun p st => m_iOrderBest1 p st.1 (rg n apN) (rg n ahN) (left : Int) st.2 (want : Int)) ((ch : Int), m) ts = some ((ch' : Int), m') ∧ MemOk A B n m' ∧
    (ch ≠ 0 → ch' = ch) ∧ (ch = 0 → (ch' = 0 ∧ ∀ t ∈ ts, ¬ IsL A B n (sub left t) want) ∨ ∃ pre post, ts = pre ++ ch' :: post ∧ IsL A B n (sub left ch') want ∧ ∀ t ∈ pre, ¬ IsL A B n (sub left t) want)
 | [], ch, m, _, hm => ⟨ch, m, rfl, hm, fun _ => rfl, fun h => .inl ⟨h, fun t ht => by simp at ht⟩⟩
 | t :: r, ch, m, hts, hm => by
  have hn := O.hn
  have hf := hts t (by simp)
  have htl : t < 2 ^ n := Nat.lt_of_le_of_lt hf.sb.le hl
  have hr : ∀ x ∈ r, Fit A B left x := fun x hx => hts x (List.mem_cons_of_mem _ hx)
  by_cases hc : ch = 0
  ·subst hc
   obtain ⟨u, m1, h1, hu, hm1⟩ := fewest_eq O 64 (sub left t) m (sub_lt hl) (by have := cnt_sub hf hl; have := cnt_le n left; omega) hm
   by_cases hw : u = want
   ·subst hw
    have hd : m_iOrderBest1 (t : Int) ((0 : Nat) : Int) (rg n apN) (rg n ahN) (left : Int) m (u : Int) = some ((t : Int), m1) := by
     unfold m_iOrderBest1
     rw [andNI_nat (pow62 (by omega) hl) (pow62 (by omega) htl), h1, bif_t (by rfl)]
     simp
    obtain ⟨ch', m', q1, q2, q3, _⟩ := foldB O hl u r t m1 hr hm1
    have e := q3 hf.nz
    subst e
    refine ⟨ch', m', ?_, q2, fun h => absurd rfl h, fun _ => .inr ⟨[], r, rfl, hu, fun x hx => by simp at hx⟩⟩
    simp only [foldD, hd]; exact q1
   ·have hd : m_iOrderBest1 (t : Int) ((0 : Nat) : Int) (rg n apN) (rg n ahN) (left : Int) m (want : Int) = some (((0 : Nat) : Int), m1) := by
     unfold m_iOrderBest1
     rw [andNI_nat (pow62 (by omega) hl) (pow62 (by omega) htl), h1, bif_t (by rfl)]
     have : ((u : Int) == (want : Int)) = false := by rw [beq_eq_false_iff_ne]; omega
     simp [this]
    have hnw : ¬ IsL A B n (sub left t) want := fun h => hw (hu.uniq h)
    obtain ⟨ch', m', q1, q2, _, q4⟩ := foldB O hl want r 0 m1 hr hm1
    refine ⟨ch', m', ?_, q2, fun h => absurd rfl h, fun _ => ?_⟩
    ·simp only [foldD, hd]; exact q1
    ·rcases q4 rfl with ⟨e, h⟩ | ⟨pre, post, e, h, h2⟩
     ·refine .inl ⟨e, fun x hx => ?_⟩
      rcases List.mem_cons.1 hx with rfl | hx
      ·exact hnw
      ·exact h x hx
     ·refine .inr ⟨t :: pre, post, by rw [e]; rfl, h, fun x hx => ?_⟩
      rcases List.mem_cons.1 hx with rfl | hx
      ·exact hnw
      ·exact h2 x hx
  ·have hd : m_iOrderBest1 (t : Int) (ch : Int) (rg n apN) (rg n ahN) (left : Int) m (want : Int) = some ((ch : Int), m) := by
    unfold m_iOrderBest1
    rw [bif_f (by rw [beq_eq_false_iff_ne]; omega)]
    rfl
   obtain ⟨ch', m', q1, q2, q3, _⟩ := foldB O hl want r ch m hr hm
   refine ⟨ch', m', ?_, q2, q3, fun h => absurd h hc⟩
   simp only [foldD, hd]; exact q1
theorem Gd.want {left v c : Nat} (h : IsL A B n left (v + 1)) : Gd A B n left c ↔ Fit A B left c ∧ IsL A B n (sub left c) v := by
 constructor
 ·rintro ⟨hf, u, hu, hv⟩
  have := h.uniq hv
  have : v = u := by omega
  subst this
  exact ⟨hf, hu⟩
 ·rintro ⟨hf, hu⟩
  exact ⟨hf, v, hu, h⟩
theorem cand_sorted (O : Ord A B n apN ahN) {left : Nat} (hl : left < 2 ^ n) : (cand n apN ahN left).Pairwise fun s t => lx (bitsL n s) (bitsL n t) = true := by
 unfold cand
 rw [List.pairwise_map]
 refine List.Pairwise.imp_of_mem ?_ (subs_sorted (ap := apN) (c := []) (free_sorted (n := n) (ahN := ahN) left n))
 intro a b ha hb h
 have key : ∀ d ∈ subs apN (freeL n ahN left n) [], bitsL n (mask d) = d := fun d hd => by
  obtain ⟨e, e0, _, hs⟩ := subs_mem hd
  rw [List.nil_append] at e0
  rw [e0]
  exact bitsL_mask ((free_sorted left n).sublist hs) (fun x hx => (mem_free.1 (hs.subset hx)).1)
 rw [key a ha, key b hb]; exact h
/-- One round: the least of the best sets. -/
theorem pick_eq (O : Ord A B n apN ahN) {left v : Nat} {m : Mem} (hl : left < 2 ^ n) (hv : IsL A B n left (v + 1)) (hvn : v + 1 ≤ n) (hm : MemOk A B n m) :
  ∃ (c : Nat) (m' : Mem), m_iOrderFirst2 (rg n apN) (rg n ahN) (left : Int) 0 (rg n apN) (rg n ahN) (left : Int) m (v : Int) = some ((c : Int), m') ∧ Bst A B n left c ∧ MemOk A B n m' := by
 have hn := O.hn
 obtain ⟨c, m', h1, h2, _, h4⟩ := foldB O hl v (cand n apN ahN left) 0 m (fun t ht => (mem_cand O hl).1 ht) hm
 have hg := grw_fold (n := n) (apN := apN) (fr := freeL n ahN left n) (fun p st => m_iOrderBest1 p st.1 (rg n apN) (rg n ahN) (left : Int) st.2 (v : Int)) (by omega) O.apl (fun x hx => (mem_free.1 hx).1) (free_len _ _) 64 0 [] (((0 : Nat) : Int), m) ((c : Int), m') (by have := free_len (n := n) (ahN := ahN) left n; omega) (Nat.zero_le _) (fun x hx => by simp at hx) (by
  rw [if_pos rfl, List.nil_append, List.drop_zero]; exact h1)
 refine ⟨c, m', ?_, ?_, h2⟩
 ·unfold m_iOrderFirst2
  rw [s1_same, free_eq O hl]
  simp only [Option.bind_some]
  rw [grwB]
  have hg' : grw (fun p st => m_iOrderBest1 p st.1 (rg n apN) (rg n ahN) (left : Int) st.2 (v : Int)) (cI (freeL n ahN left n)) (rg n apN) 64 0 0 (0, m) = some ((c : Int), m') := hg
  rw [hg']; rfl
 ·rcases h4 rfl with ⟨_, h⟩ | ⟨pre, post, e, h, h5⟩
  ·exfalso
   have := hv.is hvn
   cases this with
   | s hf ht =>
    refine h _ ((mem_cand O hl).2 hf) ?_
    refine ⟨fun k hk => ?_, fun _ => ht, by omega⟩
    have := hv.lo _ (.s hf hk)
    omega
  ·have hc : c ∈ cand n apN ahN left := by rw [e]; simp
   refine ⟨(Gd.want hv).2 ⟨(mem_cand O hl).1 hc, h⟩, fun d hd hne => ?_⟩
   obtain ⟨hdf, hdu⟩ := (Gd.want hv).1 hd
   have hd2 := (mem_cand O hl).2 hdf
   rw [e] at hd2
   rcases List.mem_append.1 hd2 with hd3 | hd3
   ·exact absurd hdu (h5 d hd3)
   ·rcases List.mem_cons.1 hd3 with e2 | hd3
    ·exact absurd e2 hne
    ·have hs := cand_sorted O hl
     rw [e, List.pairwise_append] at hs
     exact (List.pairwise_cons.1 hs.2.1).1 d hd3
end
/-! ### The bits of a set, from the lowest -/
def low : Nat → Nat → Bool
 | m, p => m.testBit p && (List.range p).all fun i => !m.testBit i
theorem low_iff {m p : Nat} : low m p = true ↔ m.testBit p = true ∧ ∀ i, i < p → m.testBit i = false := by
 unfold low
 rw [Bool.and_eq_true, List.all_eq_true]
 refine and_congr Iff.rfl ⟨fun h i hi => ?_, fun h i hi => ?_⟩
 ·simpa using h i (List.mem_range.2 hi)
 ·simpa using h i (List.mem_range.1 hi)
theorem ctz_low {m : Nat} (h0 : m ≠ 0) (h : m < 2 ^ 62) : low m (Lib.ctz 64 m) = true := by
 have hc : Lib.ctz 64 m = Lib.ctzFrom 64 m := by unfold Lib.ctz; rw [if_neg h0]
 obtain ⟨q, hq, _⟩ := Lib.ctzFrom_spec 64 m (by omega) (by omega)
 rw [hc]
 generalize Lib.ctzFrom 64 m = p at hq
 subst hq
 rw [low_iff]
 constructor
 ·rw [Nat.testBit_two_pow_mul]; simp
 ·intro i hi
  rw [Nat.testBit_two_pow_mul]
  simp; omega
theorem clear_bit : ∀ (p m : Nat), low m p = true → m &&& (m - 1) = sub m (2 ^ p)
 | 0, m, h => by
  have h1 := (low_iff.1 h).1
  rw [Nat.testBit_zero, decide_eq_true_eq] at h1
  apply Nat.eq_of_testBit_eq
  intro i
  rw [sub_bit, Nat.testBit_and]
  cases i with
  | zero =>
   have : (m - 1) % 2 = 0 := by omega
   simp [Nat.testBit_zero, h1, this]
  | succ i =>
   rw [Nat.testBit_succ, Nat.testBit_succ, show (m - 1) / 2 = m / 2 by omega, Nat.testBit_two_pow]
   simp
 | p + 1, m, h => by
  obtain ⟨h1, h2⟩ := low_iff.1 h
  have h0 := h2 0 (by omega)
  rw [Nat.testBit_zero, decide_eq_false_iff_not] at h0
  have hm : low (m / 2) p = true := low_iff.2 ⟨by rw [← Nat.testBit_succ]; exact h1, fun i hi => by rw [← Nat.testBit_succ]; exact h2 (i + 1) (by omega)⟩
  have ih := clear_bit p (m / 2) hm
  have hnz : m ≠ 0 := fun e => by subst e; simp at h1
  apply Nat.eq_of_testBit_eq
  intro i
  cases i with
  | zero =>
   rw [sub_bit, Nat.testBit_and]
   have : m.testBit 0 = false := h2 0 (by omega)
   simp [this]
  | succ i =>
   have := congrArg (·.testBit i) ih
   simp only [sub_bit, Nat.testBit_and, Nat.testBit_two_pow] at this ⊢
   rw [Nat.testBit_succ, Nat.testBit_succ, show (m - 1) / 2 = m / 2 - 1 by omega, this]
   simp
theorem bitsL_low {n m p : Nat} (hm : m < 2 ^ n) (h : low m p = true) : bitsL n m = p :: bitsL n (sub m (2 ^ p)) := by
 obtain ⟨h1, h2⟩ := low_iff.1 h
 have hp : p < n := bit_lt hm h1
 refine sorted_uniq (bitsL_sorted _ _) ?_ fun x => ?_
 ·rw [List.pairwise_cons]
  refine ⟨fun x hx => ?_, bitsL_sorted _ _⟩
  have hx2 := (mem_bitsL.1 hx).2
  rw [sub_bit, Nat.testBit_two_pow, Bool.and_eq_true] at hx2
  have hne : p ≠ x := by simpa using hx2.2
  apply Classical.byContradiction
  intro hc
  have := h2 x (by omega)
  rw [hx2.1] at this; cases this
 ·rw [mem_bitsL, List.mem_cons, mem_bitsL, sub_bit, Nat.testBit_two_pow]
  by_cases e : p = x
  ·subst e; simp [hp, h1]
  ·have : ¬ x = p := fun h => e h.symm
   simp [e, this]
theorem list_eq {n : Nat} (hn : n ≤ 60) : ∀ (d m : Nat) (l : List Int), cnt n m = d → m < 2 ^ n → l.length + d ≤ 1000 → loopM m_iOrderBest_s4 (l, (m : Int)) = some (l ++ cI (bitsL n m))
 | 0, m, l, hd, hm, _ => by
  have h0 : bitsL n m = [] := List.length_eq_zero_iff.1 hd
  have : m = 0 := by have := mask_bitsL hm; rw [h0] at this; exact this.symm
  subst this
  rw [h0]
  refine loopM_out ?_
  unfold m_iOrderBest_s4
  simp [cI]
 | d + 1, m, l, hd, hm, hl => by
  have h0 : m ≠ 0 := fun e => by
   subst e
   have : cnt n 0 = 0 := by unfold cnt bitsL; simp
   omega
  have hlow := ctz_low h0 (pow62 (by omega) hm)
  have hb := bitsL_low hm hlow
  have hc := clear_bit _ _ hlow
  have m62 := pow62 (n := n) (by omega) hm
  generalize hp : Lib.ctz 64 m = p at hlow hb hc
  have step : m_iOrderBest_s4 (l, (m : Int)) = some (.next (l ++ [(p : Int)], ((sub m (2 ^ p) : Nat) : Int))) := by
   unfold m_iOrderBest_s4
   dsimp only
   rw [bif_t (by rw [bne_iff_ne]; omega)]
   have hwu : wu (m : Int) = (m : Int) := by unfold wu; exact IntWalk.u64_in (m : Int) (by omega)
   have htz : m_mTrail (wu (m : Int)) = some (p : Int) := by
    unfold m_mTrail m_mTrail1
    rw [hwu, if_pos (by omega), Int.toNat_natCast, hp]; rfl
   have hap : apC l [(p : Int)] = some () := by
    unfold apC chk
    have hlim : lim = 1099511627776 := rfl
    simp; omega
   rw [htz]
   simp only [Option.bind_some]
   rw [hap]
   simp only [Option.bind_some]
   have e1 : wr ((m : Int) - 1) = ((m - 1 : Nat) : Int) := by rw [wr_in (by omega)]; omega
   rw [e1, andI_nat m62 (by omega), hc]
  rw [loopM_next step]
  rw [list_eq hn d (sub m (2 ^ p)) (l ++ [(p : Int)]) (by
   unfold cnt at hd ⊢
   rw [hb] at hd
   simpa using hd) (sub_lt hm) (by simp; omega), hb]
  simp [cI]
section
variable {A B : Nat → Nat → Bool} {n : Nat} {apN ahN : Nat → Nat}
theorem IsL.z {left : Nat} (h : IsL A B n left 0) : left = 0 := by
 have := h.is (Nat.zero_le _)
 cases this with
 | z => rfl
theorem chain_eq (O : Ord A B n apN ahN) (hn : n ≤ 60) : ∀ (v left : Nat) (m : Mem) (out : List (List Int)), left < 2 ^ n → IsL A B n left v → v ≤ n → MemOk A B n m → out.length + v ≤ 1000 →
  ∃ cs, Chain A B n left cs ∧ loopM (m_iOrderBest_s3 (rg n apN) (rg n ahN)) (out, m, (left : Int)) = some (out ++ cs.map fun c => cI (bitsL n c))
 | 0, left, m, out, hl, hv, _, hm, ho => by
  have := hv.z
  subst this
  refine ⟨[], .z, loopM_out ?_⟩
  unfold m_iOrderBest_s3
  simp
 | v + 1, left, m, out, hl, hv, hvn, hm, ho => by
  have h0 : left ≠ 0 := fun e => by
   subst e
   have := hv.uniq IsL.zero
   omega
  obtain ⟨v', m1, h1, hv1, hm1⟩ := fewest_eq O 64 left m hl (by have := cnt_le n left; omega) hm
  have := hv1.uniq hv
  subst this
  obtain ⟨c, m2, h2, hb, hm2⟩ := pick_eq O hl hv hvn hm1
  have hcl : c < 2 ^ n := Nat.lt_of_le_of_lt hb.gd.fit.sb.le hl
  obtain ⟨u, hu, hu1⟩ := hb.gd.val
  have hu2 := hv.uniq hu1
  have hu3 : v = u := by omega
  subst hu3
  obtain ⟨cs, hcs, hrun⟩ := chain_eq O hn v (sub left c) m2 (out ++ [cI (bitsL n c)]) (sub_lt hl) hu (by omega) hm2 (by simp; omega)
  refine ⟨c :: cs, .s hb hcs, ?_⟩
  have step : m_iOrderBest_s3 (rg n apN) (rg n ahN) (out, m, (left : Int)) = some (.next (out ++ [cI (bitsL n c)], m2, ((sub left c : Nat) : Int))) := by
   unfold m_iOrderBest_s3
   dsimp only
   rw [bif_t (by rw [bne_iff_ne]; omega), h1]
   simp only [Option.bind_some]
   rw [show wr (((v + 1 : Nat) : Int) - 1) = (v : Int) from by rw [wr_in (by omega)]; omega, h2]
   simp only [Option.bind_some]
   rw [list_eq hn (cnt n c) c [] rfl hcl (by have := cnt_le n c; simp; omega)]
   simp only [Option.bind_some, List.nil_append]
   have hap : apC out [cI (bitsL n c)] = some () := by
    unfold apC chk
    have hlim : lim = 1099511627776 := rfl
    simp; omega
   rw [hap]
   simp only [Option.bind_some]
   rw [andNI_nat (pow62 (by omega) hl) (pow62 (by omega) hcl)]
  rw [loopM_next step, hrun]
  simp
theorem full_lt (n : Nat) : 2 ^ n - 1 < 2 ^ n := by have := Nat.two_pow_pos n; omega
/-- What the first program finds. -/
theorem best_eq (O : Ord A B n apN ahN) (hn : n ≤ 60) : (∃ cs, Chain A B n (2 ^ n - 1) cs ∧ m_iOrderBest (rg n apN) (rg n ahN) = some (cs.map fun c => cI (bitsL n c), true)) ∨
  ((∀ m, ¬ Tk A B (2 ^ n - 1) m) ∧ m_iOrderBest (rg n apN) (rg n ahN) = some ([], false)) := by
 obtain ⟨v, m1, h1, hv, hm1⟩ := fewest_eq O 64 (2 ^ n - 1) [] (full_lt n) (by have := cnt_le n (2 ^ n - 1); omega) (fun k v h => by simp [mget] at h)
 have h2 : (2 : Nat) ^ n < 2 ^ 62 := Nat.pow_lt_pow_right (by omega) (by omega)
 have hp := Nat.two_pow_pos n
 have hsh : wr (shlI 1 (n : Int) - 1) = ((2 ^ n - 1 : Nat) : Int) := by
  rw [shlI_nat (by omega)]
  generalize 2 ^ n = z at h2 hp ⊢
  rw [wr_in (by omega)]; omega
 by_cases hvn : v ≤ n
 ·left
  obtain ⟨cs, hcs, hrun⟩ := chain_eq O hn v (2 ^ n - 1) m1 [] (full_lt n) hv hvn hm1 (by simp; omega)
  refine ⟨cs, hcs, ?_⟩
  unfold m_iOrderBest
  rw [rg_len, p0C_ok (Int.natCast_nonneg _)]
  simp only [Option.bind_some]
  rw [hsh, h1]
  simp only [Option.bind_some]
  rw [bif_f (by rw [decide_eq_false_iff_not]; omega), hrun]
  simp
 ·right
  refine ⟨fun m hm => ?_, ?_⟩
  ·have := hv.lo m hm
   have := hm.le_n (full_lt n)
   omega
  ·unfold m_iOrderBest
   rw [rg_len, p0C_ok (Int.natCast_nonneg _)]
   simp only [Option.bind_some]
   rw [hsh, h1]
   simp only [Option.bind_some]
   rw [bif_t (by rw [decide_eq_true_eq]; omega)]
end
end Go.Proofs.YtbfjekmefcpkmaaDoor
