/- Trees of points: the shortest tree over the grid of the pins is no longer than any tree that joins the pins (Hanan). Trees of points (any steps): a spanning tree over the pins and more points is no shorter than the table says. What the table says is the length of a tree; and to a tree there are two spanning trees, together no longer than three times it. The tree that grows by the nearest pin is the shortest that joins all; and each of its edges parts the pins for all others. The law of the trees: the tree that is grown is the shortest, it joins the pins without a ring, and it is no longer than one and a half times the shortest tree with further points. -/
import Derived.Test.YtooogkcoedampaaPuS0
import Derived.Test.YtooogkcoedampaaPuSpan
import Derived.Test.YtooogkcoedampaaPuTr1
import Derived.Test.YtooogkcoedampaaPuGain
import Derived.Test.YtooogkcoedampaaPuPairs
import Derived.Test.YtooogkcoedampaaPuSrcP
set_option linter.unusedSimpArgs false
set_option linter.unusedVariables false
namespace Go.Proofs.Ytooogkcoedampaa
open Go.RowKit

inductive DT where
  | pin (k : Nat) (p : Pt)
  | move (t : DT) (q : Pt)
  | meet (a b : DT)
def DT.root : DT → Pt
  | .pin _ p => p
  | .move _ q => q
  | .meet a _ => a.root
def DT.mask : DT → Nat
  | .pin k _ => 2 ^ k
  | .move t _ => t.mask
  | .meet a b => a.mask + b.mask
def DT.pts : DT → List Pt
  | .pin _ p => [p]
  | .move t q => q :: t.pts
  | .meet a b => a.pts ++ b.pts
def DT.ok (ps : List Pt) : DT → Prop
  | .pin k p => k < ps.length ∧ p = gP ps k
  | .move t _ => t.ok ps
  | .meet a b => a.ok ps ∧ b.ok ps ∧ a.root = b.root ∧ a.mask &&& b.mask = 0 ∧ a.mask + b.mask < 64
def DT.mx : DT → List (Int × Int)
  | .pin .. => []
  | .move t q => (t.root.1, q.1) :: t.mx
  | .meet a b => a.mx ++ b.mx
def DT.my : DT → List (Int × Int)
  | .pin .. => []
  | .move t q => (t.root.2, q.2) :: t.my
  | .meet a b => a.my ++ b.my
def DT.cost : DT → Int
  | .pin .. => 0
  | .move t q => dist t.root q + t.cost
  | .meet a b => a.cost + b.cost
def df (x y : Int) : Int := max (x - y) (y - x)
/-- The way in one direction, when the places are moved. -/
def c1 (f : Int → Int) : List (Int × Int) → Int
  | [] => 0
  | m :: l => df (f m.1) (f m.2) + c1 f l
theorem c1_app (f : Int → Int) : ∀ a b : List (Int × Int), c1 f (a ++ b) = c1 f a + c1 f b
  | [], b => by simp [c1]
  | m :: a, b => by show df _ _ + c1 f (a ++ b) = _; rw [c1_app f a b]; simp only [c1]; omega
theorem DT.cost_eq : ∀ t : DT, t.cost = c1 id t.mx + c1 id t.my
  | .pin .. => rfl
  | .move t q => by
    show dist t.root q + t.cost = (df (id t.root.1) (id q.1) + c1 id t.mx) + (df (id t.root.2) (id q.2) + c1 id t.my)
    rw [t.cost_eq]; unfold dist df; simp only [id]; omega
  | .meet a b => by
    show a.cost + b.cost = c1 id (a.mx ++ b.mx) + c1 id (a.my ++ b.my)
    rw [a.cost_eq, b.cost_eq, c1_app, c1_app]; omega
theorem two_ways {v a : Int} (hav : a < v) (f : Int → Int) : ∀ l : List (Int × Int), (∀ m ∈ l, (f m.1 ≤ a ∨ v ≤ f m.1) ∧ (f m.2 ≤ a ∨ v ≤ f m.2)) →
    (v - a + 1) * c1 f l = c1 (fun x => if f x = v then a else f x) l + (v - a) * c1 (fun x => if f x = v then v + 1 else f x) l
  | [], _ => by simp [c1]
  | m :: l, h => by
    have ih := two_ways hav f l (fun q hq => h q (List.mem_cons_of_mem _ hq))
    obtain ⟨h1, h2⟩ := h m (List.mem_cons_self ..)
    simp only [c1]
    rw [Int.mul_add, Int.mul_add, ih]
    generalize c1 (fun x => if f x = v then a else f x) l = A
    generalize c1 (fun x => if f x = v then v + 1 else f x) l = B
    have key : (v - a + 1) * df (f m.1) (f m.2) = df (if f m.1 = v then a else f m.1) (if f m.2 = v then a else f m.2) + (v - a) * df (if f m.1 = v then v + 1 else f m.1) (if f m.2 = v then v + 1 else f m.2) := by
      generalize f m.1 = p at *
      generalize f m.2 = q at *
      obtain ⟨s, hs⟩ : ∃ s, s = v - a := ⟨_, rfl⟩
      rw [← hs]
      by_cases e1 : p = v
      · by_cases e2 : q = v
        · subst e1; subst e2; simp [df]
        · rw [if_pos e1, if_neg e2, if_pos e1, if_neg e2]
          rcases h2 with h2 | h2
          · rw [show df p q = p - q by unfold df; omega, show df a q = a - q by unfold df; omega, show df (v + 1) q = v + 1 - q by unfold df; omega]
            have : a = v - s := by omega
            subst e1; rw [this]; simp only [Int.add_mul, Int.mul_add, Int.mul_sub, Int.one_mul, Int.mul_one]; omega
          · rw [show df p q = q - p by unfold df; omega, show df a q = q - a by unfold df; omega, show df (v + 1) q = q - (v + 1) by unfold df; omega]
            have : a = v - s := by omega
            subst e1; rw [this]; simp only [Int.add_mul, Int.mul_add, Int.mul_sub, Int.one_mul, Int.mul_one]; omega
      · by_cases e2 : q = v
        · rw [if_neg e1, if_pos e2, if_neg e1, if_pos e2]
          rcases h1 with h1 | h1
          · rw [show df p q = q - p by unfold df; omega, show df p a = a - p by unfold df; omega, show df p (v + 1) = v + 1 - p by unfold df; omega]
            have : a = v - s := by omega
            subst e2; rw [this]; simp only [Int.add_mul, Int.mul_add, Int.mul_sub, Int.one_mul, Int.mul_one]; omega
          · rw [show df p q = p - q by unfold df; omega, show df p a = p - a by unfold df; omega, show df p (v + 1) = p - (v + 1) by unfold df; omega]
            have : a = v - s := by omega
            subst e2; rw [this]; simp only [Int.add_mul, Int.mul_add, Int.mul_sub, Int.one_mul, Int.mul_one]; omega
        · rw [if_neg e1, if_neg e2, if_neg e1, if_neg e2, Int.add_mul, Int.one_mul]; omega
    omega
theorem great_below {P : List Int} {lo v : Int} (hlo : lo ∈ P) (h : lo ≤ v) : ∃ a ∈ P, a ≤ v ∧ ∀ y ∈ P, y ≤ v → y ≤ a := by
  obtain ⟨n, hn⟩ : ∃ n : Nat, (n : Int) = v - lo := ⟨(v - lo).toNat, by omega⟩
  induction n generalizing v with
  | zero => exact ⟨lo, hlo, h, fun y _ hy => by omega⟩
  | succ n ih =>
    by_cases hv : v ∈ P
    · exact ⟨v, hv, by omega, fun y _ hy => hy⟩
    · obtain ⟨a, h1, h2, h3⟩ := ih (v := v - 1) (by omega) (by omega)
      refine ⟨a, h1, by omega, fun y hy hyv => ?_⟩
      have : y ≠ v := fun e => hv (e ▸ hy)
      exact h3 y hy (by omega)
/-- All places can be moved to those of P, and the way grows no longer. -/
theorem oneD {P : List Int} {lo hi : Int} (hlo : lo ∈ P) (hhi : hi ∈ P) (l : List (Int × Int)) (hl : ∀ m ∈ l, (lo ≤ m.1 ∧ m.1 ≤ hi) ∧ lo ≤ m.2 ∧ m.2 ≤ hi) :
    ∃ f : Int → Int, (∀ x ∈ P, f x = x) ∧ (∀ x, lo ≤ x → x ≤ hi → f x ∈ P) ∧ c1 f l ≤ c1 id l := by
  have key : ∀ n : Nat, ∃ f : Int → Int, (∀ x ∈ P, f x = x) ∧ (∀ x, lo ≤ x → x ≤ hi → f x ∈ P ∨ (lo + n ≤ f x ∧ f x ≤ hi)) ∧ c1 f l ≤ c1 id l := by
    intro n
    induction n with
    | zero => exact ⟨id, fun x _ => rfl, fun x h1 h2 => Or.inr ⟨by simp only [id]; omega, h2⟩, Int.le_refl _⟩
    | succ n ih =>
      obtain ⟨f, h1, h2, h3⟩ := ih
      obtain ⟨v, hv⟩ : ∃ v : Int, v = lo + n := ⟨_, rfl⟩
      by_cases hvP : v ∈ P
      · refine ⟨f, h1, fun x hx1 hx2 => ?_, h3⟩
        rcases h2 x hx1 hx2 with h | ⟨g1, g2⟩
        · exact Or.inl h
        · by_cases e : f x = v
          · exact Or.inl (e ▸ hvP)
          · exact Or.inr ⟨by omega, g2⟩
      · by_cases hvh : v ≤ hi
        · have hne : v ≠ hi := fun e => hvP (e ▸ hhi)
          obtain ⟨a, ha1, ha2, ha3⟩ := great_below (v := v) hlo (by omega)
          have hav : a < v := by
            have : a ≠ v := fun e => hvP (e ▸ ha1)
            omega
          have hsp : ∀ x, lo ≤ x → x ≤ hi → f x ≤ a ∨ v ≤ f x := fun x hx1 hx2 => by
            rcases h2 x hx1 hx2 with h | ⟨g1, g2⟩
            · by_cases c : f x ≤ v
              · exact Or.inl (ha3 _ h c)
              · exact Or.inr (by omega)
            · exact Or.inr (by omega)
          have e := two_ways hav f l (fun m hm => ⟨hsp _ (hl m hm).1.1 (hl m hm).1.2, hsp _ (hl m hm).2.1 (hl m hm).2.2⟩)
          have hP : ∀ x ∈ P, f x ≠ v := fun x hx e => hvP (by rw [h1 x hx] at e; exact e ▸ hx)
          by_cases c : c1 (fun x => if f x = v then a else f x) l ≤ c1 f l
          · refine ⟨_, fun x hx => ?_, fun x hx1 hx2 => ?_, Int.le_trans c h3⟩
            · show (if f x = v then a else f x) = x
              rw [if_neg (hP x hx), h1 x hx]
            · show (if f x = v then a else f x) ∈ P ∨ (lo + ((n + 1 : Nat) : Int) ≤ (if f x = v then a else f x) ∧ (if f x = v then a else f x) ≤ hi)
              by_cases e1 : f x = v
              · rw [if_pos e1]; exact Or.inl ha1
              · rw [if_neg e1]
                rcases h2 x hx1 hx2 with h | ⟨g1, g2⟩
                · exact Or.inl h
                · exact Or.inr ⟨by omega, g2⟩
          · have hB : c1 (fun x => if f x = v then v + 1 else f x) l ≤ c1 f l := by
              by_cases hc : c1 f l < c1 (fun x => if f x = v then v + 1 else f x) l
              · have h5 : (v - a) * c1 f l < (v - a) * c1 (fun x => if f x = v then v + 1 else f x) l := Int.mul_lt_mul_of_pos_left hc (by omega)
                rw [Int.add_mul, Int.one_mul] at e
                omega
              · omega
            refine ⟨_, fun x hx => ?_, fun x hx1 hx2 => ?_, Int.le_trans hB h3⟩
            · show (if f x = v then v + 1 else f x) = x
              rw [if_neg (hP x hx), h1 x hx]
            · show (if f x = v then v + 1 else f x) ∈ P ∨ (lo + ((n + 1 : Nat) : Int) ≤ (if f x = v then v + 1 else f x) ∧ (if f x = v then v + 1 else f x) ≤ hi)
              by_cases e1 : f x = v
              · rw [if_pos e1]; exact Or.inr ⟨by omega, by omega⟩
              · rw [if_neg e1]
                rcases h2 x hx1 hx2 with h | ⟨g1, g2⟩
                · exact Or.inl h
                · exact Or.inr ⟨by omega, g2⟩
        · refine ⟨f, h1, fun x hx1 hx2 => ?_, h3⟩
          rcases h2 x hx1 hx2 with h | ⟨g1, g2⟩
          · exact Or.inl h
          · omega
  obtain ⟨f, h1, h2, h3⟩ := key (hi - lo).toNat.succ
  refine ⟨f, h1, fun x hx1 hx2 => ?_, h3⟩
  rcases h2 x hx1 hx2 with h | ⟨g1, g2⟩
  · exact h
  · omega
section
variable {ps : List Pt}
theorem mem_han {x y : Int} (hx : x ∈ ps.map (·.1)) (hy : y ∈ ps.map (·.2)) : (x, y) ∈ hanV ps := by
  obtain ⟨p, hp, rfl⟩ := List.mem_map.1 hx
  obtain ⟨q, hq, rfl⟩ := List.mem_map.1 hy
  obtain ⟨i, hi, rfl⟩ := List.mem_iff_getElem.1 hp
  obtain ⟨j, hj, rfl⟩ := List.mem_iff_getElem.1 hq
  unfold hanV
  rw [mem_setPts]
  unfold hanF
  refine List.mem_flatMap.2 ⟨i, List.mem_range.2 hi, ?_⟩
  unfold hanRow
  refine List.mem_map.2 ⟨j, List.mem_range.2 hj, ?_⟩
  rw [gP_at hi, gP_at hj]
theorem distS0 (p : Pt) : dist p p = 0 := by unfold dist; omega
theorem distE0 {p q : Pt} (h : dist p q = 0) : p = q := by
  unfold dist at h
  exact Prod.ext (by omega) (by omega)
theorem idx_han {p : Pt} (h : p ∈ hanV ps) : ∃ v, v < NP ps ∧ gP (hanV ps) v = p := by
  obtain ⟨v, hv, e⟩ := List.mem_iff_getElem.1 h
  exact ⟨v, hv, by rw [gP_at hv, e]⟩
theorem part_of {A B : Nat} (h : A + B < 64) (hA : 0 < A) (hB : 0 < B) (h0 : A &&& B = 0) : A ∈ parts (A + B) := by
  have := apart3 (A := A) (B := B) (C := 0) (by omega) (by omega) h0 (by simp) (by omega)
  exact parts_mem.2 ⟨hA, by omega, by simpa using this.2.2.1⟩
/-- A tree that is moved onto the grid is no shorter than the table says. -/
theorem table_le (ho : okPs ps = true) (hn : ps.length ≤ 6) (h1 : 1 ≤ ps.length) (f g : Int → Int) (hf : ∀ x ∈ ps.map (·.1), f x = x) (hg : ∀ y ∈ ps.map (·.2), g y = y) : ∀ t : DT, t.ok ps → t.mask < 64 →
    (∀ p ∈ t.pts, (f p.1, g p.2) ∈ hanV ps) → 0 < t.mask ∧ (f t.root.1, g t.root.2) ∈ hanV ps ∧ ∀ v, v < NP ps → gP (hanV ps) v = (f t.root.1, g t.root.2) → tP ps t.mask v ≤ c1 f t.mx + c1 g t.my := by
  obtain ⟨p0, hp0, he0⟩ := idx_han (pin_in (ps := ps) (k := 0) (by omega))
  have M := metP ho (m := 0) hp0 he0
  intro t
  induction t with
  | pin k p =>
    intro hok hm hin
    obtain ⟨hk, rfl⟩ := hok
    have hx : f (gP ps k).1 = (gP ps k).1 := hf _ (List.mem_map.2 ⟨_, by rw [gP_at hk]; exact List.getElem_mem hk, rfl⟩)
    have hy : g (gP ps k).2 = (gP ps k).2 := hg _ (List.mem_map.2 ⟨_, by rw [gP_at hk]; exact List.getElem_mem hk, rfl⟩)
    refine ⟨Nat.two_pow_pos k, hin _ (by simp [DT.pts, DT.root]), fun v hv hvp => ?_⟩
    have h2 := tT_le (pdP ps) (dP ps) (NP ps) (s := 2 ^ k) (Nat.two_pow_pos k) hv hv
    rw [mm_one (pdP ps) (dP ps) (NP ps) (single_pow (by omega)), M.self v hv] at h2
    have e : pdP ps k v = 0 := by
      have hv2 : gP (hanV ps) v = gP ps k := by rw [hvp]; exact Prod.ext hx hy
      unfold pdP
      simp only [hv2, distS0]
    show tT (pdP ps) (dP ps) (NP ps) (2 ^ k) v ≤ _
    simp only [DT.mx, DT.my, c1]
    omega
  | move t q ih =>
    intro hok hm hin
    obtain ⟨g1, g2, g3⟩ := ih hok hm (fun p hp => hin p (by simp [DT.pts, hp]))
    refine ⟨g1, hin _ (by simp [DT.pts, DT.root]), fun v hv hvp => ?_⟩
    obtain ⟨u, hu, hup⟩ := idx_han g2
    have h2 := g3 u hu hup
    have h3 := move M (s := t.mask) g1 hu hv
    have e : dP ps u v = df (f t.root.1) (f q.1) + df (g t.root.2) (g q.2) := by
      unfold dP
      rw [hup, hvp]; rfl
    show tT (pdP ps) (dP ps) (NP ps) t.mask v ≤ (df (f t.root.1) (f q.1) + c1 f t.mx) + (df (g t.root.2) (g q.2) + c1 g t.my)
    have h2' : tT (pdP ps) (dP ps) (NP ps) t.mask u ≤ c1 f t.mx + c1 g t.my := h2
    omega
  | meet a b iha ihb =>
    intro hok hm hin
    obtain ⟨oa, ob, hr, hand, hlt⟩ := hok
    obtain ⟨a1, a2, a3⟩ := iha oa (by omega) (fun p hp => hin p (by simp [DT.pts, hp]))
    obtain ⟨b1, b2, b3⟩ := ihb ob (by omega) (fun p hp => hin p (by simp [DT.pts, hp]))
    refine ⟨by show 0 < a.mask + b.mask; omega, a2, fun v hv hvp => ?_⟩
    have h2 := a3 v hv hvp
    have h3 := b3 v hv (by rw [← hr]; exact hvp)
    have h4 := mm_le (pdP ps) (dP ps) (NP ps) (v := v) (s := a.mask + b.mask) (by omega) (by omega) (part_of hlt a1 b1 hand)
    rw [show a.mask + b.mask - a.mask = b.mask by omega] at h4
    have h5 := tT_le (pdP ps) (dP ps) (NP ps) (s := a.mask + b.mask) (by omega) hv hv
    rw [M.self v hv] at h5
    have h2' : tT (pdP ps) (dP ps) (NP ps) a.mask v ≤ c1 f a.mx + c1 g a.my := h2
    have h3' : tT (pdP ps) (dP ps) (NP ps) b.mask v ≤ c1 f b.mx + c1 g b.my := h3
    show tT (pdP ps) (dP ps) (NP ps) (a.mask + b.mask) v ≤ c1 f (a.mx ++ b.mx) + c1 g (a.my ++ b.my)
    rw [c1_app, c1_app]
    omega
def inBox (ps : List Pt) (p : Pt) : Prop := (∃ q ∈ ps, q.1 ≤ p.1) ∧ (∃ q ∈ ps, p.1 ≤ q.1) ∧ (∃ q ∈ ps, q.2 ≤ p.2) ∧ ∃ q ∈ ps, p.2 ≤ q.2
theorem ends_of {P : List Int} (h : P ≠ []) : ∃ lo ∈ P, ∃ hi ∈ P, ∀ x ∈ P, lo ≤ x ∧ x ≤ hi := by
  induction P with
  | nil => exact absurd rfl h
  | cons a l ih =>
    by_cases c : l = []
    · subst c; exact ⟨a, by simp, a, by simp, fun x hx => by simp at hx; omega⟩
    · obtain ⟨lo, h1, hi, h2, h3⟩ := ih c
      refine ⟨min a lo, ?_, max a hi, ?_, fun x hx => ?_⟩
      · by_cases c2 : a ≤ lo
        · rw [show min a lo = a by omega]; simp
        · rw [show min a lo = lo by omega]; simp [h1]
      · by_cases c2 : a ≤ hi
        · rw [show max a hi = hi by omega]; simp [h2]
        · rw [show max a hi = a by omega]; simp
      · rcases List.mem_cons.1 hx with rfl | hx
        · omega
        · have := h3 x hx; omega
theorem mv_pts : ∀ t : DT, ∀ (Q : Pt → Prop), (∀ p ∈ t.pts, Q p) → Q t.root ∧ (∀ m ∈ t.mx, ∃ p q, Q p ∧ Q q ∧ m = (p.1, q.1)) ∧ ∀ m ∈ t.my, ∃ p q, Q p ∧ Q q ∧ m = (p.2, q.2)
  | .pin k p, Q, h => ⟨h p (by simp [DT.pts]), by simp [DT.mx], by simp [DT.my]⟩
  | .move t q, Q, h => by
    obtain ⟨h1, h2, h3⟩ := mv_pts t Q (fun p hp => h p (by simp [DT.pts, hp]))
    have hq := h q (by simp [DT.pts])
    refine ⟨hq, fun m hm => ?_, fun m hm => ?_⟩
    · rcases List.mem_cons.1 hm with rfl | hm
      · exact ⟨_, _, h1, hq, rfl⟩
      · exact h2 m hm
    · rcases List.mem_cons.1 hm with rfl | hm
      · exact ⟨_, _, h1, hq, rfl⟩
      · exact h3 m hm
  | .meet a b, Q, h => by
    obtain ⟨h1, h2, h3⟩ := mv_pts a Q (fun p hp => h p (by simp [DT.pts, hp]))
    obtain ⟨k1, k2, k3⟩ := mv_pts b Q (fun p hp => h p (by simp [DT.pts, hp]))
    refine ⟨h1, fun m hm => ?_, fun m hm => ?_⟩
    · rcases List.mem_append.1 hm with hm | hm
      · exact h2 m hm
      · exact k2 m hm
    · rcases List.mem_append.1 hm with hm | hm
      · exact h3 m hm
      · exact k3 m hm
/-- Hanan: the table is no more than any tree's length. -/
theorem hanan_le (ho : okPs ps = true) (hn : ps.length ≤ 6) (h1 : 1 ≤ ps.length) (t : DT) (ht : t.ok ps) (hm : t.mask < 64) (hb : ∀ p ∈ t.pts, inBox ps p) : 0 < t.mask ∧ ∃ v, v < NP ps ∧ tP ps t.mask v ≤ t.cost := by
  have hne : ps ≠ [] := fun e => by rw [e] at h1; simp at h1
  obtain ⟨lx, hlx, hx, hhx, hX⟩ := ends_of (P := ps.map (·.1)) (by simpa using hne)
  obtain ⟨ly, hly, hy, hhy, hY⟩ := ends_of (P := ps.map (·.2)) (by simpa using hne)
  have hin : ∀ p ∈ t.pts, (lx ≤ p.1 ∧ p.1 ≤ hx) ∧ ly ≤ p.2 ∧ p.2 ≤ hy := fun p hp => by
    obtain ⟨⟨q1, m1, e1⟩, ⟨q2, m2, e2⟩, ⟨q3, m3, e3⟩, q4, m4, e4⟩ := hb p hp
    have a1 := hX _ (List.mem_map.2 ⟨q1, m1, rfl⟩)
    have a2 := hX _ (List.mem_map.2 ⟨q2, m2, rfl⟩)
    have a3 := hY _ (List.mem_map.2 ⟨q3, m3, rfl⟩)
    have a4 := hY _ (List.mem_map.2 ⟨q4, m4, rfl⟩)
    omega
  obtain ⟨_, hmx, hmy⟩ := mv_pts t (fun p => (lx ≤ p.1 ∧ p.1 ≤ hx) ∧ ly ≤ p.2 ∧ p.2 ≤ hy) hin
  obtain ⟨f, f1, f2, f3⟩ := oneD hlx hhx t.mx (fun m hm => by obtain ⟨p, q, hp, hq, rfl⟩ := hmx m hm; exact ⟨hp.1, hq.1⟩)
  obtain ⟨g, g1, g2, g3⟩ := oneD hly hhy t.my (fun m hm => by obtain ⟨p, q, hp, hq, rfl⟩ := hmy m hm; exact ⟨hp.2, hq.2⟩)
  obtain ⟨a1, a2, a3⟩ := table_le ho hn h1 f g f1 g1 t ht hm (fun p hp => mem_han (f2 _ (hin p hp).1.1 (hin p hp).1.2) (g2 _ (hin p hp).2.1 (hin p hp).2.2))
  obtain ⟨v, hv, hvp⟩ := idx_han a2
  refine ⟨a1, v, hv, ?_⟩
  have := a3 v hv hvp
  rw [t.cost_eq]
  omega
end
end Go.Proofs.Ytooogkcoedampaa

set_option linter.unusedSimpArgs false
set_option linter.unusedVariables false
set_option linter.unusedSectionVars false
namespace Go.Proofs.Ytooogkcoedampaa
open Go.RowKit

def ck9 : Bool := (List.range 64).all fun A => (List.range 64).all fun B => (A &&& B != 0) || (List.range 64).all fun C => (A &&& C != 0) || (B &&& C != 0) || ((A + B) &&& C == 0)
theorem ck9_ok : ck9 = true := by decide +kernel
theorem add3 {A B C : Nat} (hA : A < 64) (hB : B < 64) (hC : C < 64) (h1 : A &&& B = 0) (h2 : A &&& C = 0) (h3 : B &&& C = 0) : (A + B) &&& C = 0 := by
  have h := List.all_eq_true.1 (List.all_eq_true.1 ck9_ok A (List.mem_range.2 hA)) B (List.mem_range.2 hB)
  simp only [Bool.or_eq_true, bne_iff_ne, ne_eq] at h
  rcases h with h | h
  · exact absurd h1 h
  have h4 := List.all_eq_true.1 h C (List.mem_range.2 hC)
  simp only [Bool.or_eq_true, bne_iff_ne, ne_eq, beq_iff_eq] at h4
  rcases h4 with (h4 | h4) | h4
  · exact absurd h2 h4
  · exact absurd h3 h4
  · exact h4
def ms : List DT → Nat
  | [] => 0
  | t :: l => t.mask + ms l
def cs : List DT → Int
  | [] => 0
  | t :: l => t.cost + cs l
theorem ms_app : ∀ a b : List DT, ms (a ++ b) = ms a + ms b
  | [], b => by simp [ms]
  | t :: a, b => by show t.mask + ms (a ++ b) = _; rw [ms_app a b]; simp only [ms]; omega
theorem cs_app : ∀ a b : List DT, cs (a ++ b) = cs a + cs b
  | [], b => by simp [cs]
  | t :: a, b => by show t.cost + cs (a ++ b) = _; rw [cs_app a b]; simp only [cs]; omega
theorem ms_perm {a b : List DT} (h : a.Perm b) : ms a = ms b ∧ cs a = cs b := by
  induction h with
  | nil => exact ⟨rfl, rfl⟩
  | cons x _ ih => exact ⟨by simp only [ms]; omega, by simp only [cs]; omega⟩
  | swap x y l => exact ⟨by simp only [ms]; omega, by simp only [cs]; omega⟩
  | trans _ _ h1 h2 => exact ⟨h1.1.trans h2.1, h1.2.trans h2.2⟩
def Apt (a b : DT) : Prop := a.mask &&& b.mask = 0
theorem Apt.symm {a b : DT} (h : Apt a b) : Apt b a := by unfold Apt at *; rw [Nat.and_comm]; exact h
theorem ms_le {l : List DT} {t : DT} (h : t ∈ l) : t.mask ≤ ms l := by
  induction l with
  | nil => simp at h
  | cons a l ih =>
    rcases List.mem_cons.1 h with rfl | h
    · simp only [ms]; omega
    · have := ih h
      simp only [ms]; omega
theorem ms_apt : ∀ (l : List DT) (t : DT), l.Pairwise Apt → (∀ a ∈ l, Apt a t) → ms l < 64 → t.mask < 64 → ms l &&& t.mask = 0
  | [], t, _, _, _, _ => by simp [ms]
  | a :: l, t, hp, ht, hm, htm => by
    obtain ⟨h1, h2⟩ := List.pairwise_cons.1 hp
    simp only [ms] at hm ⊢
    have i1 := ms_apt l t h2 (fun b hb => ht b (List.mem_cons_of_mem _ hb)) (by omega) htm
    have i2 := ms_apt l a h2 (fun b hb => (h1 b hb).symm) (by omega) (by omega)
    exact add3 (by omega) (by omega) htm (by rw [Nat.and_comm]; exact i2) (ht a (List.mem_cons_self ..)) i1
section
variable {ps : List Pt} {Q : Pt → Prop}
/-- All that lies at one point, as one tree. -/
theorem merge {v : Pt} : ∀ l : List DT, l ≠ [] → l.Pairwise Apt → ms l < 64 → (∀ t ∈ l, t.ok ps ∧ t.root = v ∧ ∀ p ∈ t.pts, Q p) →
    ∃ t : DT, t.ok ps ∧ t.root = v ∧ t.mask = ms l ∧ t.cost = cs l ∧ ∀ p ∈ t.pts, Q p
  | [], h, _, _, _ => absurd rfl h
  | [a], _, _, _, h => by
    obtain ⟨h1, h2, h3⟩ := h a (by simp)
    exact ⟨a, h1, h2, by simp [ms], by simp [cs], h3⟩
  | a :: b :: l, _, hp, hm, h => by
    obtain ⟨h1, h2⟩ := List.pairwise_cons.1 hp
    have hm' : a.mask + ms (b :: l) < 64 := hm
    obtain ⟨t, t1, t2, t3, t4, t5⟩ := merge (b :: l) (by simp) h2 (by omega) (fun t ht => h t (List.mem_cons_of_mem _ ht))
    obtain ⟨a1, a2, a3⟩ := h a (by simp)
    have hap := ms_apt (b :: l) a h2 (fun c hc => (h1 c hc).symm) (by omega) (by omega)
    refine ⟨DT.meet a t, ⟨a1, t1, by rw [a2, t2], by rw [t3, Nat.and_comm]; exact hap, by rw [t3]; exact hm'⟩, a2, by show a.mask + t.mask = _; rw [t3]; rfl, by show a.cost + t.cost = _; rw [t4]; rfl, fun p hp => ?_⟩
    rcases List.mem_append.1 hp with hp | hp
    · exact a3 p hp
    · exact t5 p hp
theorem part_perm (q : DT → Bool) (l : List DT) : (l.filter q ++ l.filter (fun t => !q t)).Perm l := List.filter_append_perm q l
/-- A tree of points with its length. -/
inductive TrW : List Pt → Int → Prop where
  | one (r : Pt) : TrW [r] 0
  | add {V : List Pt} {c : Int} {u v : Pt} : TrW V c → u ∈ V → TrW (v :: V) (c + dist u v)
theorem TrW.tree {V : List Pt} {c : Int} (h : TrW V c) : (∀ p ∈ V, Q p) → ∀ ts : List DT, ts ≠ [] → ts.Pairwise Apt → ms ts < 64 → (∀ t ∈ ts, t.ok ps ∧ t.root ∈ V ∧ ∀ p ∈ t.pts, Q p) →
    ∃ t : DT, t.ok ps ∧ t.mask = ms ts ∧ t.cost ≤ cs ts + c ∧ ∀ p ∈ t.pts, Q p := by
  induction h with
  | one r =>
    intro hV ts hne hp hm ht
    obtain ⟨t, t1, t2, t3, t4, t5⟩ := merge (v := r) ts hne hp hm (fun t h => ⟨(ht t h).1, by have := (ht t h).2.1; simpa using this, (ht t h).2.2⟩)
    exact ⟨t, t1, t3, by rw [t4]; simp, t5⟩
  | @add V c u v hT hu ih =>
    intro hV ts hne hp hm ht
    have hV' : ∀ p ∈ V, Q p := fun p hp => hV p (List.mem_cons_of_mem _ hp)
    have hnn : 0 ≤ dist u v := by unfold dist; omega
    have hperm := part_perm (fun t => decide (t.root = v)) ts
    generalize hA : ts.filter (fun t => decide (t.root = v)) = A at hperm
    generalize hB : ts.filter (fun t => !decide (t.root = v)) = B at hperm
    have hp2 : (A ++ B).Pairwise Apt := (hperm.pairwise_iff (fun h => h.symm)).2 hp
    obtain ⟨pA, pB, pAB⟩ := List.pairwise_append.1 hp2
    obtain ⟨em, ec⟩ := ms_perm hperm
    rw [ms_app] at em
    rw [cs_app] at ec
    have inA : ∀ t ∈ A, t ∈ ts ∧ t.root = v := fun t h => by rw [← hA] at h; simpa using h
    have inB : ∀ t ∈ B, t ∈ ts ∧ t.root ≠ v := fun t h => by rw [← hB] at h; simpa using h
    have rB : ∀ t ∈ B, t.root ∈ V := fun t h => by
      obtain ⟨h1, h2⟩ := inB t h
      rcases List.mem_cons.1 (ht t h1).2.1 with h3 | h3
      · exact absurd h3 h2
      · exact h3
    by_cases cA : A = []
    · subst cA
      have hBne : B ≠ [] := fun e => hne (by rw [e] at hperm; exact List.perm_nil.1 hperm.symm |>.trans rfl)
      simp only [ms, cs] at em ec
      obtain ⟨t, t1, t2, t3, t4⟩ := ih hV' B hBne pB (by omega) (fun t h => ⟨(ht t (inB t h).1).1, rB t h, (ht t (inB t h).1).2.2⟩)
      exact ⟨t, t1, by omega, by omega, t4⟩
    · obtain ⟨a, a1, a2, a3, a4, a5⟩ := merge (v := v) A cA pA (by omega) (fun t h => ⟨(ht t (inA t h).1).1, (inA t h).2, (ht t (inA t h).1).2.2⟩)
      obtain ⟨t, t1, t2, t3, t4⟩ := ih hV' (DT.move a u :: B) (by simp) (List.pairwise_cons.2 ⟨fun b hb => by
          show a.mask &&& b.mask = 0
          rw [a3]
          exact ms_apt A b pA (fun c hc => pAB c hc b hb) (by omega) (by have := ms_le hb; omega), pB⟩)
        (by show a.mask + ms B < 64; omega) (fun t h => by
          rcases List.mem_cons.1 h with rfl | h
          · refine ⟨a1, hu, fun p hp => ?_⟩
            rcases List.mem_cons.1 hp with rfl | hp
            · exact hV' _ hu
            · exact a5 p hp
          · exact ⟨(ht t (inB t h).1).1, rB t h, (ht t (inB t h).1).2.2⟩)
      refine ⟨t, t1, by rw [t2]; show a.mask + ms B = _; omega, ?_, t4⟩
      have e1 : cs (DT.move a u :: B) = (dist a.root u + a.cost) + cs B := rfl
      rw [e1, a2, dist_comm, a4] at t3
      omega
theorem clamp1 {lo hi : Int} (h : lo ≤ hi) (x y : Int) : df (max lo (min hi x)) (max lo (min hi y)) ≤ df x y := by unfold df; omega
theorem c1_clamp {lo hi : Int} (h : lo ≤ hi) : ∀ l : List (Int × Int), c1 id (l.map fun m => (max lo (min hi m.1), max lo (min hi m.2))) ≤ c1 id l
  | [] => Int.le_refl _
  | m :: l => by
    have := c1_clamp h l
    have h2 := clamp1 h m.1 m.2
    simp only [List.map_cons, c1, id] at *
    omega
theorem c1_comp (f : Int → Int) (lo hi : Int) : ∀ l : List (Int × Int), c1 (fun x => f (max lo (min hi x))) l = c1 f (l.map fun m => (max lo (min hi m.1), max lo (min hi m.2)))
  | [] => rfl
  | m :: l => by simp only [List.map_cons, c1]; rw [c1_comp f lo hi l]
/-- One direction: all places moved to those of P. -/
theorem oneD' {P : List Int} (hne : P ≠ []) (l : List (Int × Int)) : ∃ f : Int → Int, (∀ x ∈ P, f x = x) ∧ (∀ x, f x ∈ P) ∧ c1 f l ≤ c1 id l := by
  obtain ⟨lo, hlo, hi, hhi, hX⟩ := ends_of hne
  have hle := (hX lo hlo).2
  obtain ⟨f, f1, f2, f3⟩ := oneD hlo hhi (l.map fun m => (max lo (min hi m.1), max lo (min hi m.2))) (fun m hm => by
    obtain ⟨q, _, rfl⟩ := List.mem_map.1 hm
    simp only []
    omega)
  refine ⟨fun x => f (max lo (min hi x)), fun x hx => ?_, fun x => f2 _ (by omega) (by omega), ?_⟩
  · have := hX x hx
    show f (max lo (min hi x)) = x
    rw [show max lo (min hi x) = x by omega, f1 x hx]
  · rw [c1_comp]
    exact Int.le_trans f3 (c1_clamp hle l)
/-- Hanan, for any tree. -/
theorem hanan_any (ho : okPs ps = true) (hn : ps.length ≤ 6) (h1 : 1 ≤ ps.length) (t : DT) (ht : t.ok ps) (hm : t.mask < 64) : 0 < t.mask ∧ ∃ v, v < NP ps ∧ tP ps t.mask v ≤ t.cost := by
  have hne : ps ≠ [] := fun e => by rw [e] at h1; simp at h1
  obtain ⟨f, f1, f2, f3⟩ := oneD' (P := ps.map (·.1)) (by simpa using hne) t.mx
  obtain ⟨g, g1, g2, g3⟩ := oneD' (P := ps.map (·.2)) (by simpa using hne) t.my
  obtain ⟨a1, a2, a3⟩ := table_le ho hn h1 f g f1 g1 t ht hm (fun p hp => mem_han (f2 _) (g2 _))
  obtain ⟨v, hv, hvp⟩ := idx_han a2
  refine ⟨a1, v, hv, ?_⟩
  have := a3 v hv hvp
  rw [t.cost_eq]
  omega
def pinT (ps : List Pt) (n : Nat) : List DT := (List.range n).map fun k => DT.pin k (gP ps k)
theorem pinT_ms : ∀ n, ms (pinT ps n) = 2 ^ n - 1 ∧ cs (pinT ps n) = 0
  | 0 => ⟨rfl, rfl⟩
  | n + 1 => by
    obtain ⟨h1, h2⟩ := pinT_ms n
    unfold pinT at *
    rw [List.range_succ, List.map_append, ms_app, cs_app, h1, h2]
    have := Nat.two_pow_pos n
    refine ⟨?_, rfl⟩
    simp only [List.map_cons, List.map_nil, ms, DT.mask]
    rw [Nat.pow_succ]; omega
def ck10 : Bool := (List.range 6).all fun i => (List.range 6).all fun j => (i == j) || (2 ^ i &&& 2 ^ j == 0)
theorem ck10_ok : ck10 = true := by decide +kernel
theorem pinT_apt {n : Nat} (hn : n ≤ 6) : (pinT ps n).Pairwise Apt := by
  unfold pinT
  rw [List.pairwise_map]
  refine (List.nodup_range (n := n)).imp_of_mem (fun {a b} ha hb hab => ?_)
  have h := List.all_eq_true.1 (List.all_eq_true.1 ck10_ok a (List.mem_range.2 (by have := List.mem_range.1 ha; omega))) b (List.mem_range.2 (by have := List.mem_range.1 hb; omega))
  simp only [Bool.or_eq_true, beq_iff_eq] at h
  rcases h with h | h
  · exact absurd h hab
  · exact h
theorem prim_tr {qs : List Pt} (hp : okPs qs = true) (h1 : 1 ≤ qs.length) : ∀ k, k + 1 ≤ qs.length → ∃ V, TrW V (trF qs k).2.1 ∧ ∀ i, i < qs.length → (trF qs k).2.2.getD i false = true → gP qs i ∈ V
  | 0, _ => ⟨[gP qs 0], TrW.one _, fun i hi hr => by
    by_cases c : i = 0
    · subst c; simp
    · exfalso
      have : (trF qs 0).2.2.getD i false = false := by
        show ((List.replicate qs.length false).set 0 true).getD i false = false
        simp [List.getD, List.getElem?_set, Ne.symm c, List.getElem?_replicate, hi]
      rw [this] at hr; exact absurd hr (by simp)⟩
  | k + 1, hk => by
    obtain ⟨V, v1, v2⟩ := prim_tr hp h1 k (by omega)
    obtain ⟨a, b, e, hab, hb, e1⟩ := trF_step hp h1 (k := k) (by omega)
    have hne : (trF qs k).2.2.getD a false ≠ (trF qs k).2.2.getD b false := (outF_ok (ps := qs) (R := (trF qs k).2.2) qs.length (Nat.le_refl _) a b e).2.2
    have key : ∃ V', TrW V' ((trF qs k).2.1 + dist (gP qs a) (gP qs b)) ∧ (∀ p ∈ V, p ∈ V') ∧ gP qs a ∈ V' ∧ gP qs b ∈ V' := by
      by_cases ca : (trF qs k).2.2.getD a false = true
      · have ha := v2 a (by omega) ca
        exact ⟨gP qs b :: V, TrW.add v1 ha, fun p hp => List.mem_cons_of_mem _ hp, List.mem_cons_of_mem _ ha, List.mem_cons_self ..⟩
      · have cb : (trF qs k).2.2.getD b false = true := by
          revert hne ca
          cases (trF qs k).2.2.getD a false <;> cases (trF qs k).2.2.getD b false <;> simp
        have hb' := v2 b hb cb
        refine ⟨gP qs a :: V, ?_, fun p hp => List.mem_cons_of_mem _ hp, List.mem_cons_self .., List.mem_cons_of_mem _ hb'⟩
        rw [dist_comm]
        exact TrW.add v1 hb'
    obtain ⟨V', q1, q2, q3, q4⟩ := key
    rw [e1]
    refine ⟨V', q1, fun i hi hr => ?_⟩
    by_cases c1 : i = b
    · subst c1; exact q4
    · by_cases c2 : i = a
      · subst c2; exact q3
      · refine q2 _ (v2 i hi ?_)
        have : (((trF qs k).2.2.set a true).set b true).getD i false = (trF qs k).2.2.getD i false := by
          simp [List.getD, List.getElem?_set, Ne.symm c1, Ne.symm c2]
        rw [← this]; exact hr
theorem all_true {R : List Bool} (h : R.count true = R.length) {i : Nat} (hi : i < R.length) : R.getD i false = true := by
  have h2 := List.count_eq_length.1 h
  have := h2 _ (List.getElem_mem hi)
  simp [List.getD, List.getElem?_eq_getElem hi, ← this]
/-- A spanning tree over the pins and more is no shorter than some entry of the table. -/
theorem span_ge (ho : okPs ps = true) (hn : ps.length ≤ 6) (h1 : 1 ≤ ps.length) {qs : List Pt} (hq : okPs qs = true) (h2 : ps.length ≤ qs.length) (hpre : ∀ i, i < ps.length → gP qs i = gP ps i) :
    ∃ v, v < NP ps ∧ tP ps (2 ^ ps.length - 1) v ≤ (trV qs).2 := by
  obtain ⟨V, v1, v2⟩ := prim_tr hq (by omega) (qs.length - 1) (by omega)
  obtain ⟨_, hl, hc, _⟩ := trF_inv hq (by omega) (qs.length - 1) (by omega)
  have hin : ∀ i, i < ps.length → gP ps i ∈ V := fun i hi => by
    rw [← hpre i hi]
    exact v2 i (by omega) (all_true (by omega) (by omega))
  obtain ⟨m1, m2⟩ := pinT_ms (ps := ps) ps.length
  have h64 : 2 ^ ps.length ≤ 64 := Nat.pow_le_pow_right (n := 2) (by omega) hn
  have hpos := Nat.two_pow_pos ps.length
  obtain ⟨t, t1, t2, t3, t4⟩ := v1.tree (ps := ps) (Q := fun _ => True) (fun _ _ => trivial) (pinT ps ps.length) (fun e => by
      have := congrArg List.length e
      rw [show (pinT ps ps.length).length = ps.length by simp [pinT]] at this; simp only [List.length_nil] at this; omega) (pinT_apt hn) (by omega) (fun t ht => by
      obtain ⟨k, hk, rfl⟩ := List.mem_map.1 ht
      have hk' := List.mem_range.1 hk
      exact ⟨⟨hk', rfl⟩, hin k hk', fun _ _ => trivial⟩)
  obtain ⟨_, v, hv, hle⟩ := hanan_any ho hn h1 t t1 (by omega)
  refine ⟨v, hv, ?_⟩
  rw [t2, m1] at hle
  rw [m2] at t3
  show _ ≤ (trF qs (qs.length - 1)).2.1
  omega
end
end Go.Proofs.Ytooogkcoedampaa

set_option linter.unusedSimpArgs false
set_option linter.unusedVariables false
set_option linter.unusedSectionVars false
namespace Go.Proofs.Ytooogkcoedampaa
open Go.RowKit

def popC (S : Nat) : Nat := ((List.range 6).filter fun k => S.testBit k).length
def ckA : Bool := (List.range 64).all fun A => (List.range 64).all fun B => (A &&& B != 0) || decide (64 ≤ A + B) || (popC (A + B) == popC A + popC B && (List.range 6).all fun k => !((A + B).testBit k) || (A.testBit k || B.testBit k))
theorem ckA_ok : ckA = true := by decide +kernel
theorem pop_add {A B : Nat} (hA : A < 64) (hB : B < 64) (h : A &&& B = 0) (h64 : A + B < 64) : popC (A + B) = popC A + popC B ∧ ∀ k, k < 6 → (A + B).testBit k = true → A.testBit k = true ∨ B.testBit k = true := by
  have h1 := List.all_eq_true.1 (List.all_eq_true.1 ckA_ok A (List.mem_range.2 hA)) B (List.mem_range.2 hB)
  simp only [Bool.or_eq_true, bne_iff_ne, ne_eq, Bool.and_eq_true, beq_iff_eq, decide_eq_true_eq, h, not_true_eq_false, false_or] at h1
  rcases h1 with h1 | ⟨h1, h2⟩
  · omega
  · refine ⟨h1, fun k hk hb => ?_⟩
    have h3 := List.all_eq_true.1 h2 k (List.mem_range.2 hk)
    rw [hb] at h3
    simpa using h3
def ckB6 : Bool := (List.range 6).all fun k => popC (2 ^ k) == 1 && (List.range 6).all fun j => !((2 ^ k).testBit j) || j == k
theorem ckB6_ok : ckB6 = true := by decide +kernel
def ckC : Bool := (List.range 64).all fun s => (parts s).all fun p => p &&& (s - p) == 0
theorem ckC_ok : ckC = true := by decide +kernel
theorem parts_apart {s p : Nat} (hs : s < 64) (hp : p ∈ parts s) : p &&& (s - p) = 0 := by
  have := List.all_eq_true.1 (List.all_eq_true.1 ckC_ok s (List.mem_range.2 hs)) p hp
  simpa using this
def DT.sh : DT → Sh
  | .pin k _ => .lf k
  | .move t _ => t.sh
  | .meet a b => .nd a.sh b.sh
def DT.cr (χ : Pt → Bool) : DT → Nat
  | .pin .. => 0
  | .move t q => (if χ t.root = χ q then 0 else 1) + t.cr χ
  | .meet a b => a.cr χ + b.cr χ
section
variable {ps : List Pt}
theorem DT.sh_ok (hn : ps.length ≤ 6) : ∀ t : DT, t.ok ps → t.mask < 64 ∧ (∀ k ∈ t.sh.leaves, k < ps.length) ∧ (∀ k, k < 6 → t.mask.testBit k = true → k ∈ t.sh.leaves) ∧ t.sh.leaves.length = popC t.mask
  | .pin k p, h => by
    obtain ⟨hk, _⟩ := h
    have h1 := List.all_eq_true.1 ckB6_ok k (List.mem_range.2 (by omega))
    simp only [Bool.and_eq_true, beq_iff_eq] at h1
    have h64 : 2 ^ k ≤ 2 ^ 5 := Nat.pow_le_pow_right (by omega) (by omega)
    refine ⟨by show 2 ^ k < 64; omega, fun j hj => by simp only [DT.sh, Sh.leaves, List.mem_singleton] at hj; subst hj; exact hk, fun j hj hb => ?_, h1.1.symm⟩
    have h2 := List.all_eq_true.1 h1.2 j (List.mem_range.2 hj)
    have hb' : (2 ^ k).testBit j = true := hb
    rw [hb'] at h2
    simpa [DT.sh, Sh.leaves] using h2
  | .move t q, h => t.sh_ok hn h
  | .meet a b, h => by
    obtain ⟨ha, hb, _, hand, hlt⟩ := h
    obtain ⟨a1, a2, a3, a4⟩ := a.sh_ok hn ha
    obtain ⟨b1, b2, b3, b4⟩ := b.sh_ok hn hb
    obtain ⟨p1, p2⟩ := pop_add a1 b1 hand hlt
    refine ⟨hlt, fun k hk => ?_, fun k hk hbt => ?_, ?_⟩
    · rcases List.mem_append.1 hk with hk | hk
      · exact a2 k hk
      · exact b2 k hk
    · rcases p2 k hk hbt with h | h
      · exact List.mem_append.2 (Or.inl (a3 k hk h))
      · exact List.mem_append.2 (Or.inr (b3 k hk h))
    · show (a.sh.leaves ++ b.sh.leaves).length = popC (a.mask + b.mask)
      rw [List.length_append, a4, b4, p1]
theorem DT.cut_ge (χ : Pt → Bool) : ∀ t : DT, t.ok ps → t.sh.F (fun k => χ (gP ps k)) (χ t.root) ≤ t.cr χ
  | .pin k p, h => by
    obtain ⟨_, rfl⟩ := h
    simp [DT.sh, Sh.F, DT.root, DT.cr]
  | .move t q, h => by
    have h1 := t.cut_ge χ h
    have h2 := Sh.F_lip (fun k => χ (gP ps k)) t.sh (χ q) (χ t.root)
    show t.sh.F (fun k => χ (gP ps k)) (χ q) ≤ (if χ t.root = χ q then 0 else 1) + t.cr χ
    by_cases c : χ t.root = χ q
    · rw [if_pos c]; rw [if_pos c.symm] at h2; omega
    · rw [if_neg c]; rw [if_neg (Ne.symm c)] at h2; omega
  | .meet a b, h => by
    obtain ⟨ha, hb, hr, _, _⟩ := h
    have h1 := a.cut_ge χ ha
    have h2 := b.cut_ge χ hb
    rw [← hr] at h2
    show min (a.sh.F (fun k => χ (gP ps k)) (χ a.root) + b.sh.F (fun k => χ (gP ps k)) (χ a.root)) _ ≤ a.cr χ + b.cr χ
    omega
theorem DT.root_in : ∀ t : DT, t.root ∈ t.pts
  | .pin k p => by simp [DT.root, DT.pts]
  | .move t q => by simp [DT.root, DT.pts]
  | .meet a b => by show a.root ∈ a.pts ++ b.pts; exact List.mem_append.2 (Or.inl a.root_in)
theorem sumT_zero : ∀ n, sumT (fun _ => 0) n = 0
  | 0 => rfl
  | n + 1 => by simp only [sumT, sumT_zero n]
theorem DT.cost_cut : ∀ t : DT, (∀ p ∈ t.pts, okP p = true) → t.cost = (sumT (fun c => t.cr (fun p => bnd p.1 c)) 99 : Nat) + (sumT (fun c => t.cr (fun p => bnd p.2 c)) 99 : Nat)
  | .pin k p, _ => by simp only [DT.cost, DT.cr, sumT_zero]; rfl
  | .move t q, h => by
    have h1 : okP q = true := h q (by simp [DT.pts])
    have h2 : okP t.root = true := h _ (by simp [DT.pts, t.root_in])
    have ih := t.cost_cut (fun p hp => h p (by simp [DT.pts, hp]))
    simp only [DT.cost, DT.cr]
    rw [dist_sum h2 h1, ih, sumT_add, sumT_add]
    omega
  | .meet a b, h => by
    have iha := a.cost_cut (fun p hp => h p (by simp [DT.pts, hp]))
    have ihb := b.cost_cut (fun p hp => h p (by simp [DT.pts, hp]))
    simp only [DT.cost, DT.cr]
    rw [iha, ihb, sumT_add, sumT_add]
    omega
/-- To a tree over all pins: two lists of edges, each joining all pins, together no longer than three times the tree. -/
theorem DT.half (ho : okPs ps = true) (hn : ps.length ≤ 6) (t : DT) (ht : t.ok ps) (hm : t.mask = 2 ^ ps.length - 1) (hp : ∀ p ∈ t.pts, okP p = true) :
    ∃ (r : Nat) (E1 E2 : List (Nat × Nat)), (∀ k, k < ps.length → Con E1 (fun v => v = r) k ∧ Con E2 (fun v => v = r) k) ∧ (∀ e ∈ E1 ++ E2, e.1 < ps.length ∧ e.2 < ps.length) ∧ elen (gP ps) E1 + elen (gP ps) E2 ≤ 3 * t.cost := by
  obtain ⟨h1, h2, h3, h4⟩ := t.sh_ok hn ht
  have hpop : ∀ S, popC S ≤ 6 := fun S => by
    unfold popC
    have := List.length_filter_le (fun k => S.testBit k) (List.range 6)
    simpa using this
  have hpos := t.sh.leaves_pos
  obtain ⟨r, E1, E2, e1, e2, e3⟩ := three_two (gP ps) t.sh (by rw [h4]; exact hpop _) (fun k hk => by rw [gP_at (h2 k hk)]; exact okPs_at ho (h2 k hk))
  refine ⟨r, E1, E2, fun k hk => e1 k (h3 k (by omega) ?_), fun e he => ⟨h2 _ (e2 e he).1, h2 _ (e2 e he).2⟩, Int.le_trans e3 ?_⟩
  · rw [hm, Nat.testBit_two_pow_sub_one]; simp [hk]
  · rw [t.cost_cut hp]
    have a1 := sumT_le (f := fun c => t.sh.P (fun k => bnd (gP ps k).1 c)) (g := fun c => t.cr (fun p => bnd p.1 c)) (fun c => Nat.le_trans (Sh.P_le _ _ _) (t.cut_ge (fun p => bnd p.1 c) ht)) 99
    have a2 := sumT_le (f := fun c => t.sh.P (fun k => bnd (gP ps k).2 c)) (g := fun c => t.cr (fun p => bnd p.2 c)) (fun c => Nat.le_trans (Sh.P_le _ _ _) (t.cut_ge (fun p => bnd p.2 c) ht)) 99
    omega
/-- Every entry of the table is the length of a tree. -/
theorem tree_at (ho : okPs ps = true) (hn : ps.length ≤ 6) : ∀ (n s v : Nat), s ≤ n → 0 < s → s < 2 ^ ps.length → v < NP ps → ∃ t : DT, t.ok ps ∧ t.mask = s ∧ t.root = gP (hanV ps) v ∧ t.cost = tP ps s v ∧ ∀ p ∈ t.pts, okP p = true := by
  have hhan : ∀ v, v < NP ps → okP (gP (hanV ps) v) = true := fun v hv => by
    rw [gP_at hv]; exact okPs_at (hanV_ok ho) hv
  have h64 : 2 ^ ps.length ≤ 64 := Nat.pow_le_pow_right (n := 2) (by omega) hn
  intro n
  induction n with
  | zero => intro s v h1 h2; omega
  | succ n ih =>
    intro s v hs h0 hlt hv
    obtain ⟨u, hu, e⟩ := tT_at (pdP ps) (dP ps) (NP ps) (s := s) (v := v) h0 hv (distS0 _)
    have key : ∃ t : DT, t.ok ps ∧ t.mask = s ∧ t.root = gP (hanV ps) u ∧ t.cost = mm (pdP ps) (dP ps) (NP ps) s u ∧ ∀ p ∈ t.pts, okP p = true := by
      obtain ⟨g1, g2, _⟩ := single_parts h0 (show s < 128 by omega)
      cases hsg : single s with
      | some k =>
        obtain ⟨_, rfl⟩ := g2 k hsg
        have hk : k < ps.length := by
          by_cases c : k < ps.length
          · exact c
          · have := Nat.pow_le_pow_right (n := 2) (show 2 > 0 by omega) (show ps.length ≤ k by omega)
            omega
        refine ⟨DT.move (DT.pin k (gP ps k)) (gP (hanV ps) u), ⟨hk, rfl⟩, rfl, rfl, ?_, fun p hp => ?_⟩
        · rw [mm_one (pdP ps) (dP ps) (NP ps) hsg]
          show dist (gP ps k) (gP (hanV ps) u) + 0 = _
          rw [Int.add_zero]
        · simp only [DT.pts, List.mem_cons, List.not_mem_nil, or_false] at hp
          rcases hp with rfl | rfl
          · exact hhan u hu
          · rw [gP_at hk]; exact okPs_at ho hk
      | none =>
        obtain ⟨p, hp, e2⟩ := mm_at (pdP ps) (dP ps) (NP ps) (s := s) (v := u) h0 (show s < 128 by omega) (g1 hsg)
        obtain ⟨p0, p1, _⟩ := parts_mem.1 hp
        obtain ⟨a, a1, a2, a3, a4, a5⟩ := ih p u (by omega) p0 (by omega) hu
        obtain ⟨b, b1, b2, b3, b4, b5⟩ := ih (s - p) u (by omega) (by omega) (by omega) hu
        refine ⟨DT.meet a b, ⟨a1, b1, by rw [a3, b3], by rw [a2, b2]; exact parts_apart (by omega) hp, by rw [a2, b2]; omega⟩, by show a.mask + b.mask = s; omega, a3, ?_, fun q hq => ?_⟩
        · show a.cost + b.cost = _
          rw [a4, b4, e2]
        · rcases List.mem_append.1 hq with hq | hq
          · exact a5 q hq
          · exact b5 q hq
    obtain ⟨t, t1, t2, t3, t4, t5⟩ := key
    refine ⟨DT.move t (gP (hanV ps) v), t1, t2, rfl, ?_, fun p hp => ?_⟩
    · show dist t.root (gP (hanV ps) v) + t.cost = tP ps s v
      rw [t3, t4]
      show _ = tT (pdP ps) (dP ps) (NP ps) s v
      rw [e]
      show dist (gP (hanV ps) u) (gP (hanV ps) v) + _ = _ + dist (gP (hanV ps) u) (gP (hanV ps) v)
      omega
    · rcases List.mem_cons.1 hp with rfl | hp
      · exact hhan v hv
      · exact t5 p hp
end
end Go.Proofs.Ytooogkcoedampaa

set_option linter.unusedSimpArgs false
set_option linter.unusedVariables false
set_option linter.unusedSectionVars false
namespace Go.Proofs.Ytooogkcoedampaa
open Go.RowKit

section
variable {ps : List Pt} {R : List Bool}
def Few (ps : List Pt) (bs : Option (Nat × Nat)) (i k : Nat) : Prop := ∃ a b, bs = some (a, b) ∧ dist (gP ps a) (gP ps b) ≤ dist (gP ps i) (gP ps k)
theorem bsStep_here {bs : Option (Nat × Nat)} {i k : Nat} (h : R.getD i false ≠ R.getD k false) : Few ps (bsStep ps R bs i k) i k := by
  unfold bsStep
  rw [if_pos h]
  cases bs with
  | none => exact ⟨i, k, rfl, Int.le_refl _⟩
  | some x =>
    obtain ⟨a, b⟩ := x
    simp only []
    by_cases c : dist (gP ps i) (gP ps k) < dist (gP ps a) (gP ps b)
    · rw [if_pos c]; exact ⟨i, k, rfl, Int.le_refl _⟩
    · rw [if_neg c]; exact ⟨a, b, rfl, by omega⟩
theorem bsStep_keep {bs : Option (Nat × Nat)} {i k i' k' : Nat} (h : Few ps bs i' k') : Few ps (bsStep ps R bs i k) i' k' := by
  unfold bsStep
  obtain ⟨a, b, rfl, hle⟩ := h
  by_cases c : R.getD i false ≠ R.getD k false
  · rw [if_pos c]
    simp only []
    by_cases c2 : dist (gP ps i) (gP ps k) < dist (gP ps a) (gP ps b)
    · rw [if_pos c2]; exact ⟨i, k, rfl, by omega⟩
    · rw [if_neg c2]; exact ⟨a, b, rfl, hle⟩
  · rw [if_neg c]; exact ⟨a, b, rfl, hle⟩
theorem inF_keep {bs : Option (Nat × Nat)} {i i' k' : Nat} (h : Few ps bs i' k') : ∀ m, Few ps (inF ps R i bs m) i' k'
  | 0 => h
  | m + 1 => bsStep_keep (inF_keep h m)
theorem inF_here {bs : Option (Nat × Nat)} {i j : Nat} (h : R.getD i false ≠ R.getD (i + 1 + j) false) : ∀ m, j < m → Few ps (inF ps R i bs m) i (i + 1 + j)
  | 0, hj => absurd hj (by omega)
  | m + 1, hj => by
    by_cases c : j = m
    · subst c; exact bsStep_here h
    · exact bsStep_keep (inF_here h m (by omega))
theorem outF_min {a b : Nat} (hab : a < b) (hb : b < ps.length) (h : R.getD a false ≠ R.getD b false) : ∀ i, a < i → Few ps (outF ps R i) a b
  | 0, hi => absurd hi (by omega)
  | i + 1, hi => by
    by_cases c : a = i
    · subst c
      have := inF_here (ps := ps) (R := R) (bs := outF ps R a) (i := a) (j := b - (a + 1)) (by rw [show a + 1 + (b - (a + 1)) = b by omega]; exact h) (ps.length - (a + 1)) (by omega)
      rw [show a + 1 + (b - (a + 1)) = b by omega] at this
      exact this
    · exact inF_keep (outF_min hab hb h i (by omega)) _
theorem Con.mono {E E' : List (Nat × Nat)} {P P' : Nat → Prop} (hE : ∀ e ∈ E, e ∈ E') (hP : ∀ v, P v → Con E' P' v) {v : Nat} (h : Con E P v) : Con E' P' v := by
  induction h with
  | base v hv => exact hP v hv
  | fwd u v _ he ih => exact Con.fwd u v ih (hE _ he)
  | bwd u v _ he ih => exact Con.bwd u v ih (hE _ he)
theorem Con.symm {E : List (Nat × Nat)} {r v : Nat} (h : Con E (fun x => x = r) v) : Con E (fun x => x = v) r := by
  induction h with
  | base v hv => subst hv; exact Con.base _ rfl
  | fwd u v _ he ih => exact ih.mono (fun _ h => h) (fun x hx => by subst hx; exact Con.bwd v x (Con.base _ rfl) he)
  | bwd u v _ he ih => exact ih.mono (fun _ h => h) (fun x hx => by subst hx; exact Con.fwd v x (Con.base _ rfl) he)
def outE (f : Nat → Bool) (E : List (Nat × Nat)) : List (Nat × Nat) := E.filter fun e => !f e.1 && !f e.2
/-- On the way to what is not reached there is an edge that leaves the reached; beyond it the way keeps outside. -/
theorem Con.cross {E : List (Nat × Nat)} {f : Nat → Bool} {w : Nat} (h : Con E (fun x => f x = true) w) : f w = false → ∃ u v, f u = true ∧ f v = false ∧ ((u, v) ∈ E ∨ (v, u) ∈ E) ∧ Con (outE f E) (fun x => x = w) v := by
  induction h with
  | base v hv => intro h; rw [hv] at h; exact absurd h (by simp)
  | fwd u v _ he ih =>
    intro hv
    by_cases c : f u = true
    · exact ⟨u, v, c, hv, Or.inl he, Con.base _ rfl⟩
    · have c' : f u = false := by simpa using c
      obtain ⟨x, y, h1, h2, h3, h4⟩ := ih c'
      refine ⟨x, y, h1, h2, h3, h4.mono (fun _ h => h) (fun z hz => ?_)⟩
      subst hz
      exact Con.bwd v z (Con.base _ rfl) (List.mem_filter.2 ⟨he, by simp [c', hv]⟩)
  | bwd u v _ he ih =>
    intro hv
    by_cases c : f u = true
    · exact ⟨u, v, c, hv, Or.inr he, Con.base _ rfl⟩
    · have c' : f u = false := by simpa using c
      obtain ⟨x, y, h1, h2, h3, h4⟩ := ih c'
      refine ⟨x, y, h1, h2, h3, h4.mono (fun _ h => h) (fun z hz => ?_)⟩
      subst hz
      exact Con.fwd v z (Con.base _ rfl) (List.mem_filter.2 ⟨he, by simp [c', hv]⟩)
theorem elen_erase {g : Nat → Pt} {e : Nat × Nat} : ∀ {E : List (Nat × Nat)}, e ∈ E → elen g (E.erase e) + dist (g e.1) (g e.2) = elen g E
  | [], h => by simp at h
  | x :: E, h => by
    by_cases c : x = e
    · subst c; simp [elen]; omega
    · rw [List.erase_cons_tail (by simpa using c)]
      have hm : e ∈ E := by
        rcases List.mem_cons.1 h with h | h
        · exact absurd h.symm c
        · exact h
      have := elen_erase (g := g) hm
      simp only [elen]; omega
theorem elen_nn (g : Nat → Pt) : ∀ E : List (Nat × Nat), 0 ≤ elen g E
  | [] => Int.le_refl _
  | e :: E => by have := elen_nn g E; simp only [elen]; unfold dist; omega
/-- After each step of the growth: what is left of any joining list, with what has grown, is no more than the list. -/
theorem prim_inv (hp : okPs ps = true) (h1 : 1 ≤ ps.length) {E : List (Nat × Nat)} (hE : ∀ e ∈ E, e.1 < ps.length ∧ e.2 < ps.length) (hc : ∀ v, v < ps.length → Con E (fun x => x = 0) v) : ∀ k, k + 1 ≤ ps.length →
    ∃ F : List (Nat × Nat), (∀ e ∈ F, e.1 < ps.length ∧ e.2 < ps.length) ∧ (∀ v, v < ps.length → Con F (fun x => (trF ps k).2.2.getD x false = true) v) ∧ (trF ps k).2.1 + elen (gP ps) F ≤ elen (gP ps) E
  | 0, _ => ⟨E, hE, fun v hv => (hc v hv).mono (fun _ h => h) (fun x hx => by
      subst hx
      refine Con.base _ ?_
      show ((List.replicate ps.length false).set 0 true).getD 0 false = true
      simp [List.getD, List.getElem?_set, show 0 < ps.length by omega]), by show 0 + _ ≤ _; omega⟩
  | k + 1, hk => by
    obtain ⟨F, f1, f2, f3⟩ := prim_inv hp h1 hE hc k (by omega)
    obtain ⟨a, b, e, hab, hb, e1⟩ := trF_step hp h1 (k := k) (by omega)
    obtain ⟨_, hlen, _⟩ := trF_inv hp h1 k (by omega)
    have hne : (trF ps k).2.2.getD a false ≠ (trF ps k).2.2.getD b false := (outF_ok (ps := ps) (R := (trF ps k).2.2) ps.length (Nat.le_refl _) a b e).2.2
    generalize hr : (trF ps k).2.2 = r at *
    have ha : a < ps.length := by omega
    have hset : ∀ x, ((r.set a true).set b true).getD x false = true ↔ (x = a ∨ x = b ∨ r.getD x false = true) := fun x => by
      by_cases c1 : x = b
      · subst c1; simp [List.getD, List.getElem?_set, hlen, hb]
      · by_cases c2 : x = a
        · subst c2; simp [List.getD, List.getElem?_set, hlen, ha, Ne.symm c1]
        · simp [List.getD, List.getElem?_set, Ne.symm c1, Ne.symm c2, c1, c2]
    obtain ⟨w, hw, hwlt, hwab⟩ : ∃ w, r.getD w false = false ∧ w < ps.length ∧ (w = a ∨ w = b) := by
      by_cases c : r.getD a false = true
      · refine ⟨b, ?_, hb, Or.inr rfl⟩
        revert hne; rw [c]; cases r.getD b false <;> simp
      · exact ⟨a, by simpa using c, ha, Or.inl rfl⟩
    obtain ⟨u, v, c1, c2, c3, c4⟩ := (f2 w hwlt).cross (f := fun x => r.getD x false) hw
    obtain ⟨g, hg, hg1, hg2⟩ : ∃ g, g ∈ F ∧ (g = (u, v) ∨ g = (v, u)) ∧ dist (gP ps g.1) (gP ps g.2) = dist (gP ps u) (gP ps v) := by
      rcases c3 with c3 | c3
      · exact ⟨_, c3, Or.inl rfl, rfl⟩
      · exact ⟨_, c3, Or.inr rfl, dist_comm _ _⟩
    have huv : u < ps.length ∧ v < ps.length := by
      have := f1 g hg
      rcases hg1 with rfl | rfl
      · exact this
      · exact ⟨this.2, this.1⟩
    have hmin : dist (gP ps a) (gP ps b) ≤ dist (gP ps u) (gP ps v) := by
      have c1' : r.getD u false = true := c1
      have c2' : r.getD v false = false := c2
      have huv' : u ≠ v := fun e => by rw [e] at c1'; rw [c1'] at c2'; exact absurd c2' (by simp)
      by_cases c : u < v
      · obtain ⟨a', b', q1, q2⟩ := outF_min (ps := ps) (R := r) c huv.2 (by rw [c1', c2']; simp) ps.length huv.1
        rw [e] at q1
        obtain ⟨rfl, rfl⟩ := Prod.mk.inj (Option.some.inj q1)
        exact q2
      · obtain ⟨a', b', q1, q2⟩ := outF_min (ps := ps) (R := r) (show v < u by omega) huv.1 (by rw [c1', c2']; simp) ps.length huv.2
        rw [e] at q1
        obtain ⟨rfl, rfl⟩ := Prod.mk.inj (Option.some.inj q1)
        rw [dist_comm (gP ps v)] at q2
        exact q2
    have hel := elen_erase (g := gP ps) hg
    refine ⟨F.erase g, fun x hx => f1 x (List.mem_of_mem_erase hx), fun x hx => ?_, ?_⟩
    · rw [e1]
      show Con (F.erase g) (fun x => ((r.set a true).set b true).getD x false = true) x
      have hin : ∀ {y}, r.getD y false = true → Con (F.erase g) (fun x => ((r.set a true).set b true).getD x false = true) y := fun hy => Con.base _ ((hset _).2 (Or.inr (Or.inr hy)))
      have hvR : Con (F.erase g) (fun x => ((r.set a true).set b true).getD x false = true) v := by
        refine c4.mono (fun z hz => ?_) (fun z hz => ?_)
        · obtain ⟨z1, z2⟩ := List.mem_filter.1 hz
          refine (List.mem_erase_of_ne (fun e => ?_)).2 z1
          subst e
          simp only [Bool.and_eq_true, Bool.not_eq_true'] at z2
          rcases hg1 with rfl | rfl
          · rw [show r.getD u false = true from c1] at z2; exact absurd z2.1 (by simp)
          · rw [show r.getD u false = true from c1] at z2; exact absurd z2.2 (by simp)
        · subst hz
          refine Con.base _ ((hset _).2 ?_)
          rcases hwab with h | h
          · exact Or.inl h
          · exact Or.inr (Or.inl h)
      have all : ∀ {y}, Con F (fun x => r.getD x false = true) y → Con (F.erase g) (fun x => ((r.set a true).set b true).getD x false = true) y := by
        intro y hy
        induction hy with
        | base y hy => exact hin hy
        | fwd z y _ he ih =>
          by_cases c : (z, y) = g
          · rcases hg1 with h | h
            · rw [h] at c
              obtain ⟨_, rfl⟩ := Prod.mk.inj c
              exact hvR
            · rw [h] at c
              obtain ⟨_, rfl⟩ := Prod.mk.inj c
              exact hin c1
          · exact Con.fwd z y ih ((List.mem_erase_of_ne c).2 he)
        | bwd z y _ he ih =>
          by_cases c : (y, z) = g
          · rcases hg1 with h | h
            · rw [h] at c
              obtain ⟨rfl, _⟩ := Prod.mk.inj c
              exact hin c1
            · rw [h] at c
              obtain ⟨rfl, _⟩ := Prod.mk.inj c
              exact hvR
          · exact Con.bwd z y ih ((List.mem_erase_of_ne c).2 he)
      exact all (f2 x hx)
    · rw [e1]
      show (trF ps k).2.1 + dist (gP ps a) (gP ps b) + elen (gP ps) (F.erase g) ≤ _
      omega
/-- No list of edges that joins all pins is shorter than the tree. -/
theorem prim_le (hp : okPs ps = true) (h1 : 1 ≤ ps.length) {E : List (Nat × Nat)} (hE : ∀ e ∈ E, e.1 < ps.length ∧ e.2 < ps.length) {r : Nat} (hc : ∀ v, v < ps.length → Con E (fun x => x = r) v) : (trV ps).2 ≤ elen (gP ps) E := by
  obtain ⟨F, _, _, f3⟩ := prim_inv hp h1 hE (fun v hv => (hc v hv).mono (fun _ h => h) (fun x hx => by subst hx; exact (hc 0 (by omega)).symm)) (ps.length - 1) (by omega)
  have := elen_nn (gP ps) F
  unfold trV
  simp only []
  omega
def pA (r : List Int) : Nat := (r.getD 0 0).toNat
def pB (r : List Int) : Nat := (r.getD 1 0).toNat
/-- Each row parts the pins so that no other row joins the two sides. -/
def Parting (l : List (List Int)) : Prop := ∀ e rest, l.Perm (e :: rest) → ∃ χ : Nat → Bool, χ (pA e) ≠ χ (pB e) ∧ ∀ r ∈ rest, χ (pA r) = χ (pB r)
theorem trF_part (hp : okPs ps = true) (h1 : 1 ≤ ps.length) : ∀ k, k + 1 ≤ ps.length → Parting (trF ps k).1 ∧ ∀ r ∈ (trF ps k).1, (trF ps k).2.2.getD (pA r) false = true ∧ (trF ps k).2.2.getD (pB r) false = true
  | 0, _ => ⟨fun e rest h => absurd h.length_eq (by show ¬ ([] : List (List Int)).length = _; simp), fun r hr => absurd hr (by show r ∉ ([] : List (List Int)); simp)⟩
  | k + 1, hk => by
    obtain ⟨i1, i2⟩ := trF_part hp h1 k (by omega)
    obtain ⟨a, b, e, hab, hb, e1⟩ := trF_step hp h1 (k := k) (by omega)
    obtain ⟨_, hlen, _⟩ := trF_inv hp h1 k (by omega)
    have hne : (trF ps k).2.2.getD a false ≠ (trF ps k).2.2.getD b false := (outF_ok (ps := ps) (R := (trF ps k).2.2) ps.length (Nat.le_refl _) a b e).2.2
    rw [e1]
    simp only []
    generalize (trF ps k).2.2 = r at *
    generalize (trF ps k).1 = l at *
    have ha : a < ps.length := by omega
    have hset : ∀ x, ((r.set a true).set b true).getD x false = true ↔ (x = a ∨ x = b ∨ r.getD x false = true) := fun x => by
      by_cases c1 : x = b
      · subst c1; simp [List.getD, List.getElem?_set, hlen, hb]
      · by_cases c2 : x = a
        · subst c2; simp [List.getD, List.getElem?_set, hlen, ha, Ne.symm c1]
        · simp [List.getD, List.getElem?_set, Ne.symm c1, Ne.symm c2, c1, c2]
    obtain ⟨w, z, hw, hz, hwz⟩ : ∃ w z, r.getD w false = false ∧ r.getD z false = true ∧ ((w = a ∧ z = b) ∨ (w = b ∧ z = a)) := by
      by_cases c : r.getD a false = true
      · refine ⟨b, a, ?_, c, Or.inr ⟨rfl, rfl⟩⟩
        revert hne; rw [c]; cases r.getD b false <;> simp
      · refine ⟨a, b, by simpa using c, ?_, Or.inl ⟨rfl, rfl⟩⟩
        have c' : r.getD a false = false := by simpa using c
        revert hne; rw [c']; cases r.getD b false <;> simp
    have hzw : z ≠ w := fun e => by rw [e, hw] at hz; exact absurd hz (by simp)
    have hA : pA [(a : Int), (b : Int)] = a := by simp [pA]
    have hB : pB [(a : Int), (b : Int)] = b := by simp [pB]
    have hold : ∀ x ∈ l, pA x ≠ w ∧ pB x ≠ w := fun x hx => by
      obtain ⟨q1, q2⟩ := i2 x hx
      exact ⟨fun e => by rw [e, hw] at q1; exact absurd q1 (by simp), fun e => by rw [e, hw] at q2; exact absurd q2 (by simp)⟩
    refine ⟨fun x rest hperm => ?_, fun x hx => ?_⟩
    · have h2 : ([(a : Int), (b : Int)] :: l).Perm (x :: rest) := (List.perm_append_singleton _ _).symm.trans hperm
      by_cases c : x = [(a : Int), (b : Int)]
      · subst c
        have h3 : l.Perm rest := h2.cons_inv
        refine ⟨fun y => decide (y = w), ?_, fun y hy => ?_⟩
        · rw [hA, hB]
          rcases hwz with ⟨rfl, rfl⟩ | ⟨rfl, rfl⟩
          · simp [hzw]
          · simp [hzw]
        · obtain ⟨q1, q2⟩ := hold y (h3.mem_iff.2 hy)
          simp [q1, q2]
      · have hxl : x ∈ l := by
          have := h2.mem_iff.2 (List.mem_cons_self ..)
          rcases List.mem_cons.1 this with h | h
          · exact absurd h c
          · exact h
        have h4 : l.Perm (x :: l.erase x) := List.perm_cons_erase hxl
        have h5 : rest.Perm ([(a : Int), (b : Int)] :: l.erase x) := by
          have : (x :: rest).Perm (x :: [(a : Int), (b : Int)] :: l.erase x) := h2.symm.trans ((h4.cons _).trans (List.Perm.swap ..))
          exact this.cons_inv
        obtain ⟨χ, x1, x2⟩ := i1 x _ h4
        obtain ⟨q1, q2⟩ := hold x hxl
        refine ⟨fun y => if y = w then χ z else χ y, ?_, fun y hy => ?_⟩
        · simp only [if_neg q1, if_neg q2]
          exact x1
        · rcases List.mem_cons.1 (h5.mem_iff.1 hy) with rfl | hy
          · rw [hA, hB]
            rcases hwz with ⟨rfl, rfl⟩ | ⟨rfl, rfl⟩
            · simp [hzw]
            · simp [hzw]
          · obtain ⟨g1, g2⟩ := hold y (List.mem_of_mem_erase hy)
            simp only [if_neg g1, if_neg g2]
            exact x2 y hy
    · rcases List.mem_append.1 hx with hx | hx
      · obtain ⟨q1, q2⟩ := i2 x hx
        exact ⟨(hset _).2 (Or.inr (Or.inr q1)), (hset _).2 (Or.inr (Or.inr q2))⟩
      · simp only [List.mem_singleton] at hx
        subst hx
        rw [hA, hB]
        exact ⟨(hset _).2 (Or.inl rfl), (hset _).2 (Or.inr (Or.inl rfl))⟩
theorem Parting.perm {l m : List (List Int)} (h : Parting l) (hp : l.Perm m) : Parting m := fun e rest hm => h e rest (hp.trans hm)
end
end Go.Proofs.Ytooogkcoedampaa

set_option linter.unusedSimpArgs false
set_option linter.unusedVariables false
set_option linter.unusedSectionVars false
namespace Go.Proofs.Ytooogkcoedampaa
open Go.RowKit

theorem pins_drawn {l : List Int} (hl : ∀ p ∈ l, In8 p) : ∃ ps, m_spec_B10Pins l 6 = some ps ∧ okPs ps = true ∧ ps.Nodup ∧ 1 ≤ ps.length ∧ ps.length ≤ 6 := by
  unfold m_spec_B10Pins m_spec_l00From m_spec_l05DrawOk_bspecl00Src
  simp only [bind_some']
  obtain ⟨v, k', s', e1, e2, e3, e4, e5⟩ := src_pick1 (k := 0) (s := 0) (n := 6) hl (by omega) (by omega) (by omega) (by omega)
  rw [e1]
  simp only [bind_some']
  obtain ⟨r, g1, g2, g3, g4, g5⟩ := loopM_count (m_spec_l05DrawOk_bspecl00Src_s1 l) (1 + v).toNat
    (fun j s => okPs s.1 = true ∧ s.1.Nodup ∧ s.1.length ≤ j ∧ (0 < j → 1 ≤ s.1.length) ∧ s.2.1 = 1 + v - j ∧ 0 ≤ s.2.2.1 ∧ s.2.2.1 ≤ 1 + 2 * j)
    (fun r => okPs r.1 = true ∧ r.1.Nodup ∧ 1 ≤ r.1.length ∧ r.1.length ≤ 6)
    (s0 := (([] : List (Int × Int)), wr (1 + v), k', s')) ⟨rfl, List.nodup_nil, by simp, by omega, by rw [wr_in (by omega)]; simp, e4, by simp; omega⟩
    (by
      rintro j ⟨acc, x, k, s⟩ hj ⟨a1, a2, a3, a4, a5, a6, a7⟩
      simp only at a1 a2 a3 a4 a5 a6 a7
      subst a5
      unfold m_spec_l05DrawOk_bspecl00Src_s1
      simp only []
      rw [bif_t (by simp; omega)]
      obtain ⟨x1, k1, s1, b1, b2, b3, b4, b5⟩ := src_pick1 (k := k) (s := s) (n := 9) hl (by omega) (by omega) (by omega) (by omega)
      rw [b1]
      simp only [bind_some']
      obtain ⟨y1, k2, s2, c1, c2, c3, c4, c5⟩ := src_pick1 (k := k1) (s := s1) (n := 9) hl (by omega) (by omega) (by omega) (by omega)
      rw [c1]
      simp only [bind_some']
      obtain ⟨i, i1, i2⟩ := Index_eq acc (x1, y1) (by omega)
      rw [i1]
      simp only [bind_some']
      left
      by_cases hm : (x1, y1) ∈ acc
      · have hi : i ≥ 0 := by simpa [hm] using i2
        rw [bif_f (by simp; omega)]
        refine ⟨_, rfl, a1, a2, by show acc.length ≤ j + 1; omega, fun _ => List.length_pos_of_mem hm, by simp only []; rw [wr_in (by omega)]; omega, by simp only []; omega, by simp only []; omega⟩
      · have hi : ¬ i ≥ 0 := by simpa [hm] using i2
        rw [bif_t (by simp; omega), apC_ok (by unfold lim; simp; omega)]
        refine ⟨_, rfl, okPs_snoc a1 (by unfold okP; simp; omega), ?_, by simp; omega, fun _ => by simp, by simp only []; rw [wr_in (by omega)]; omega, by simp only []; omega, by simp only []; omega⟩
        show (acc ++ [(x1, y1)]).Nodup
        rw [List.nodup_append]
        exact ⟨a2, by simp, fun a ha b hb => by simp only [List.mem_singleton] at hb; subst hb; exact fun e => hm (e ▸ ha)⟩)
    (by
      rintro ⟨acc, x, k, s⟩ ⟨a1, a2, a3, a4, a5, a6, a7⟩
      simp only at a1 a2 a3 a4 a5 a6 a7
      subst a5
      unfold m_spec_l05DrawOk_bspecl00Src_s1
      simp only []
      rw [bif_f (by simp; omega)]
      exact ⟨_, rfl, a1, a2, a4 (by omega), by show acc.length ≤ 6; omega⟩)
  rw [g1]
  exact ⟨r.1, rfl, g2, g3, g4, g5⟩
theorem b10In_eq (l : List Pt) (p : Pt) (hb : l.length ≤ 140737488355328) : m_laws_b10In l p.1 p.2 = some (decide (p ∈ l)) := by
  unfold m_laws_b10In
  rcases loop_find (step := m_laws_b10In_s1 l p.1 p.2) l.length (fun k => decide (l[k]? = some p)) (fun k => true) (by
      intro k hk
      unfold m_laws_b10In_s1
      simp only []
      rw [bif_t (by simpa using hk), geti_lt hk]
      simp only [bind_some', eqb, List.getElem?_eq_getElem hk, Option.some.injEq]
      by_cases h : l[k] = p
      · simp [h]
      · simp only [h, decide_false, cond_false]
        rw [wr_in (by omega)]; rfl) (by
      unfold m_laws_b10In_s1
      simp only []
      rw [bif_f (by simp)]) with ⟨h1, h2⟩ | ⟨k, h1, h2, _, h3⟩
  · rw [h2]
    have : p ∉ l := fun hp => by
      obtain ⟨k, hk, rfl⟩ := List.mem_iff_getElem.1 hp
      have := anyIn_f.1 h1 k (by omega) hk
      simp [List.getElem?_eq_getElem hk] at this
    simp [this]
  · rw [h3]
    have : p ∈ l := by
      simp only [decide_eq_true_eq] at h2
      exact List.mem_of_getElem? h2
    simp [this]
theorem b10At_ok {l : List Int} (hl : ∀ p ∈ l, In8 p) {k : Int} (hk : 0 ≤ k ∧ k ≤ 100) : ∃ v, m_laws_b10At l k 10 = some v ∧ 0 ≤ v ∧ v < 10 := by
  unfold m_laws_b10At
  rw [bif_f (by simp)]
  have hnz : nzC 10 = some () := by unfold nzC; simp [chk]
  by_cases hc : k < l.length
  · rw [bif_t (by simpa using hc)]
    obtain ⟨n, rfl⟩ := Int.eq_ofNat_of_zero_le hk.1
    have hn : n < l.length := by omega
    have h8 := hl _ (List.getElem_mem hn)
    rw [geti_lt hn]
    simp only [bind_some', hnz]
    unfold In8 at h8
    rw [wr_in (by omega)]
    exact ⟨_, rfl, Int.tmod_nonneg _ (by omega), by rw [Int.tmod_eq_emod_of_nonneg (by omega)]; omega⟩
  · rw [bif_f (by simpa using hc)]
    simp only [bind_some', hnz]
    rw [wr_in (x := k * 37) (by omega), wr_in (by omega)]
    exact ⟨_, rfl, Int.tmod_nonneg _ (by omega), by rw [Int.tmod_eq_emod_of_nonneg (by omega)]; omega⟩
theorem b10Pin_ok {l : List Int} (hl : ∀ p ∈ l, In8 p) {k : Int} (hk : 0 ≤ k ∧ k ≤ 99) : ∃ p : Pt, m_laws_b10Pin l k = some p ∧ 0 ≤ p.1 ∧ p.1 < 10 ∧ 0 ≤ p.2 ∧ p.2 < 10 := by
  unfold m_laws_b10Pin
  obtain ⟨x, x1, x2, x3⟩ := b10At_ok hl (k := k) (by omega)
  obtain ⟨y, y1, y2, y3⟩ := b10At_ok hl (k := k + 1) (by omega)
  rw [x1, wr_in (by omega)]
  simp only [bind_some']
  rw [y1]
  exact ⟨(x, y), rfl, x2, x3, y2, y3⟩
theorem b10At_lt {l : List Int} (hl : ∀ p ∈ l, In8 p) {k n : Int} (hk : 0 ≤ k ∧ k ≤ 100) (hn : 1 ≤ n ∧ n ≤ 100) : ∃ v : Nat, m_laws_b10At l k n = some (v : Int) ∧ (v : Int) < n := by
  unfold m_laws_b10At
  by_cases c1 : n ≤ 1
  · rw [bif_t (by simpa using c1)]; exact ⟨0, rfl, by omega⟩
  rw [bif_f (by simpa using c1)]
  have hnz : nzC n = some () := by unfold nzC; simp [chk]; omega
  have key : ∀ x : Int, 0 ≤ x → ∃ v : Nat, Int.tmod x n = (v : Int) ∧ (v : Int) < n := fun x hx => by
    have h0 := Int.tmod_nonneg n hx
    have h1 : Int.tmod x n < n := by rw [Int.tmod_eq_emod_of_nonneg hx]; exact Int.emod_lt_of_pos _ (by omega)
    exact ⟨(Int.tmod x n).toNat, by omega, by omega⟩
  by_cases hc : k < l.length
  · rw [bif_t (by simpa using hc)]
    obtain ⟨m, rfl⟩ := Int.eq_ofNat_of_zero_le hk.1
    have hm : m < l.length := by omega
    have h8 := hl _ (List.getElem_mem hm)
    rw [geti_lt hm]
    simp only [bind_some', hnz]
    unfold In8 at h8
    rw [wr_in (by omega)]
    obtain ⟨v, e, h⟩ := key l[m] (by omega)
    exact ⟨v, by rw [e], h⟩
  · rw [bif_f (by simpa using hc)]
    simp only [bind_some', hnz]
    rw [wr_in (x := k * 37) (by omega), wr_in (by omega)]
    obtain ⟨v, e, h⟩ := key (k * 37 + 11) (by omega)
    exact ⟨v, by rw [e], h⟩
theorem trF_ab {ps : List Pt} (hp : okPs ps = true) (h1 : 1 ≤ ps.length) : ∀ k, k + 1 ≤ ps.length → ∀ r ∈ (trF ps k).1, ∃ a b : Nat, r = [(a : Int), (b : Int)] ∧ a < b ∧ b < ps.length
  | 0, _, r, hr => by simp [trF] at hr
  | k + 1, hk, r, hr => by
    obtain ⟨a, b, _, h2, h3, e⟩ := trF_step hp h1 (k := k) (by omega)
    rw [e] at hr
    rcases List.mem_append.1 hr with hr | hr
    · exact trF_ab hp h1 k (by omega) r hr
    · simp only [List.mem_singleton] at hr
      exact ⟨a, b, hr, h2, h3⟩
section
variable {ps : List Pt}
def wt (ps : List Pt) (r : List Int) : Int := dist (gP ps (r.getD 0 0).toNat) (gP ps (r.getD 1 0).toNat)
def sw (ps : List Pt) : List (List Int) → Int
  | [] => 0
  | r :: l => wt ps r + sw ps l
theorem sw_app (ps : List Pt) : ∀ a b, sw ps (a ++ b) = sw ps a + sw ps b
  | [], b => by simp [sw]
  | r :: a, b => by show wt ps r + sw ps (a ++ b) = _; rw [sw_app ps a b]; simp only [sw]; omega
theorem sw_perm {a b : List (List Int)} (h : a.Perm b) : sw ps a = sw ps b := by
  induction h with
  | nil => rfl
  | cons x _ ih => simp only [sw]; omega
  | swap x y l => simp only [sw]; omega
  | trans _ _ h1 h2 => exact h1.trans h2
theorem trF_sw (hp : okPs ps = true) (h1 : 1 ≤ ps.length) : ∀ k, k + 1 ≤ ps.length → (trF ps k).2.1 = sw ps (trF ps k).1
  | 0, _ => rfl
  | k + 1, h => by
    obtain ⟨a, b, _, _, _, e⟩ := trF_step hp h1 (k := k) (by omega)
    rw [e]
    simp only []
    rw [sw_app, ← trF_sw hp h1 k (by omega)]
    simp [sw, wt]
theorem implSt (ho : okPs ps = true) (hn : ps.length ≤ 7) (h1 : 1 ≤ ps.length) : ∃ x p, p < NP ps ∧ m_impl_steiner ps = some x ∧ (∀ v, v < NP ps → x ≤ tP ps (2 ^ ps.length - 1) v) ∧ tP ps (2 ^ ps.length - 1) p ≤ x := by
  have hN' : (hanV ps).length ≤ 1000000 := hanV_len ps (by omega)
  have hN : NP ps ≤ 1000000 := hN'
  have hN1 : 1 ≤ NP ps := hanV_pos h1
  obtain ⟨p, hp, hix, hpe⟩ := Index_at (hanV ps) (gP ps (ps.length - 1)) (pin_in (by omega)) (by omega)
  have hpN : p < NP ps := hp
  have M := metP ho (m := ps.length - 1) hpN hpe
  have h128 := pow_lt7 (m := ps.length) hn
  have hpos := Nat.two_pow_pos ps.length
  have h2 : 2 ≤ 2 ^ ps.length := by
    have := Nat.pow_le_pow_right (n := 2) (by omega) h1
    simpa using this
  by_cases c : ps.length = 1
  · refine ⟨0, p, hpN, ?_, ?_⟩
    · unfold m_impl_steiner
      rw [implHanan_eq ps (by omega)]
      simp only [bind_some']
      rw [wr_in (by omega), bif_t (by simp [c])]
    · have e1 : 2 ^ ps.length - 1 = 1 := by rw [c]
      rw [e1]
      refine ⟨fun v hv => (tw ho (s := 1) (by omega) (by omega) hv).2.1, ?_⟩
      have h3 := tT_le (pdP ps) (dP ps) (NP ps) (s := 1) (by omega) hpN hpN
      have h4 := mm_one (pdP ps) (dP ps) (NP ps) (k := 0) (v := p) (single_pow (by omega))
      rw [show (2 : Nat) ^ 0 = 1 from rfl] at h4
      have h5 := M.pin p hpN
      rw [show ps.length - 1 = 0 by omega] at h5
      have h6 := M.self p hpN
      unfold tP
      omega
  · obtain ⟨t1, t2⟩ := tree_last M (by omega) (by omega)
    rw [show ps.length - 1 + 1 = ps.length by omega] at t1 t2
    have hS := Nat.two_pow_pos (ps.length - 1)
    have hS2 : 2 ≤ 2 ^ (ps.length - 1) := by
      have := Nat.pow_le_pow_right (n := 2) (show 2 > 0 by omega) (show 1 ≤ ps.length - 1 by omega)
      simpa using this
    have hS128 := pow_lt7 (m := ps.length - 1) (by omega)
    refine ⟨tP ps (2 ^ (ps.length - 1) - 1) p, p, hpN, ?_, ?_⟩
    · unfold m_impl_steiner
      rw [implHanan_eq ps (by omega)]
      simp only [bind_some']
      rw [wr_in (x := (ps.length : Int) - 1) (by omega), bif_f (by simp; omega), p0C_ok (by omega), show (ps.length : Int) - 1 = ((ps.length - 1 : Nat) : Int) by omega, (shl_pow (by omega)).1, mkC_ok (by unfold lim; omega)]
      simp only [bind_some', Int.toNat_natCast]
      rw [i23 ho hn (by omega) hN]
      simp only [bind_some']
      rw [gg (k := ps.length - 1) (by omega), wr_in (by omega), show ((2 ^ (ps.length - 1) : Nat) : Int) - 1 = ((2 ^ (ps.length - 1) - 1 : Nat) : Int) by omega, tab_geti (by omega) (by omega) (by omega)]
      simp only [bind_some']
      rw [hix]
      simp only [bind_some']
      rw [rowT_geti hpN]
      rfl
    · exact ⟨t1, t2⟩
theorem b10Abs_eq {n : Int} (h : -1000 ≤ n ∧ n ≤ 1000) : m_laws_b10Abs n = some (max n (-n)) := by
  unfold m_laws_b10Abs
  by_cases c : n < 0
  · rw [bif_t (by simpa using c), wr_in (by omega)]; congr 1; omega
  · rw [bif_f (by simpa using c)]; congr 1; omega
theorem b10Far_eq {p q : Pt} (hp : okP p = true) (hq : okP q = true) : m_laws_b10Far p.1 p.2 q.1 q.2 = some (dist p q) := by
  have h1 := okP_t hp
  have h2 := okP_t hq
  unfold m_laws_b10Far
  rw [wr_in (by omega), wr_in (x := p.2 - q.2) (by omega), b10Abs_eq (by omega), b10Abs_eq (by omega)]
  simp only [bind_some']
  unfold dist
  rw [wr_in (by omega)]
  congr 1; omega
theorem bnd_row {ps : List Pt} (hp : okPs ps = true) (h1 : 1 ≤ ps.length) : ∀ r ∈ sortRows (trV ps).1, ∃ a b : Nat, r = [(a : Int), (b : Int)] ∧ a < b ∧ b < ps.length := fun r hr =>
  trF_ab hp h1 (ps.length - 1) (by omega) r ((sortRows_perm (trV ps).1).mem_iff.1 hr)
def lbl (n : Nat) (f : Nat → Int) : List Int := (List.range n).map f
theorem lbl_at {n k : Nat} {f : Nat → Int} (h : k < n) : geti (lbl n f) (k : Int) = some (f k) := by rw [geti_nat]; unfold lbl; simp [h]
theorem tr_s1 (hb : ps.length ≤ 1000) : loopM (m_laws_FnTrees_s1 ps) (0, List.replicate ps.length (0 : Int)) = some (lbl ps.length fun j => (j : Int)) := by
  have := loop_run (step := m_laws_FnTrees_s1 ps) ps.length (fun k => ((k : Int), rowP ps.length (fun j => (j : Int)) (fun _ => 0) k)) (r := rowP ps.length (fun j => (j : Int)) (fun _ => 0) ps.length) (by
    intro k hk
    unfold m_laws_FnTrees_s1
    simp only []
    rw [bif_t (by simpa using hk), rowP_at hk]
    simp only [bind_some', Int.toNat_natCast]
    rw [wr_in (by omega)]
    have := rowP_set (N := ps.length) (v := k) (f := fun j => (j : Int)) (g := fun _ => 0) hk
    rw [this]; rfl) (by
    unfold m_laws_FnTrees_s1
    simp only []
    rw [bif_f (by simp)])
  rw [rowP_rep, rowP_N] at this
  exact this
def rel (x y : Int) (f : Nat → Int) (j : Nat) : Int := if f j = y then x else f j
theorem tr_s5 (hb : ps.length ≤ 1000) (x y : Int) (f : Nat → Int) : loopM (m_laws_FnTrees_s5 ps x y) (0, lbl ps.length f) = some (lbl ps.length (rel x y f)) := by
  have := loop_run (step := m_laws_FnTrees_s5 ps x y) ps.length (fun k => ((k : Int), rowP ps.length (rel x y f) f k)) (r := rowP ps.length (rel x y f) f ps.length) (by
    intro k hk
    unfold m_laws_FnTrees_s5
    simp only []
    have hat : geti (rowP ps.length (rel x y f) f k) (k : Int) = some (f k) := by rw [rowP_at hk]; simp
    rw [bif_t (by simpa using hk), hat]
    simp only [bind_some', Int.toNat_natCast]
    have hs := rowP_set (N := ps.length) (v := k) (f := rel x y f) (g := f) hk
    by_cases c : f k = y
    · rw [bif_t (by simpa using c)]
      simp only [bind_some']
      rw [show rel x y f k = x by unfold rel; rw [if_pos c]] at hs
      rw [wr_in (by omega), hs]; rfl
    · rw [bif_f (by simpa using c)]
      simp only [bind_some']
      rw [show rel x y f k = f k by unfold rel; rw [if_neg c], set_back hat] at hs
      rw [wr_in (by omega), ← hs]; rfl) (by
    unfold m_laws_FnTrees_s5
    simp only []
    rw [bif_f (by simp)])
  rw [rowP_0, rowP_N] at this
  exact this
def Knit (n : Nat) (L : List (List Int)) (f : Nat → Int) : Prop := ∀ u v, u < n → v < n → f u = f v → ∀ χ : Nat → Bool, (∀ r ∈ L, χ (pA r) = χ (pB r)) → χ u = χ v
theorem Knit.step {n : Nat} {L : List (List Int)} {f : Nat → Int} (h : Knit n L f) {a b : Nat} (ha : a < n) (hb : b < n) : Knit n (L ++ [[(a : Int), (b : Int)]]) (rel (f a) (f b) f) := by
  intro u v hu hv he χ hχ
  have hL : ∀ r ∈ L, χ (pA r) = χ (pB r) := fun r hr => hχ r (List.mem_append.2 (Or.inl hr))
  have hab : χ a = χ b := by
    have := hχ [(a : Int), (b : Int)] (by simp)
    simpa [pA, pB] using this
  have one : ∀ w, w < n → ∃ w', w' < n ∧ rel (f a) (f b) f w = f w' ∧ χ w = χ w' := fun w hw => by
    by_cases c : f w = f b
    · exact ⟨a, ha, by unfold rel; rw [if_pos c], by rw [hab]; exact h w b hw hb c χ hL⟩
    · exact ⟨w, hw, by unfold rel; rw [if_neg c], rfl⟩
  obtain ⟨u', u1, u2, u3⟩ := one u hu
  obtain ⟨v', v1, v2, v3⟩ := one v hv
  rw [u3, v3]
  exact h u' v' u1 v1 (by rw [← u2, ← v2]; exact he) χ hL
theorem tr_s4 (hp : okPs ps = true) (h1 : 1 ≤ ps.length) (h6 : ps.length ≤ 6) (z : Int) (bb : Bool) : loopM (m_laws_FnTrees_s4 ps (sortRows (trV ps).1, z, bb)) (0, 0, lbl ps.length fun j => (j : Int)) = some (Sum.inl (trV ps).2) := by
  have hrow := bnd_row hp h1
  have hperm := sortRows_perm (trV ps).1
  have hpart : Parting (sortRows (trV ps).1) := (trF_part hp h1 (ps.length - 1) (by omega)).1.perm hperm.symm
  have hsum : sw ps (sortRows (trV ps).1) = (trV ps).2 := by
    rw [sw_perm hperm]
    exact (trF_sw hp h1 (ps.length - 1) (by omega)).symm
  have hlen : (sortRows (trV ps).1).length ≤ 5 := by
    rw [hperm.length_eq]
    have := (trF_inv hp h1 (ps.length - 1) (by omega)).1
    show (trF ps (ps.length - 1)).1.length ≤ 5
    omega
  generalize sortRows (trV ps).1 = L at *
  have hsw : ∀ l : List (List Int), (∀ r ∈ l, ∃ a b : Nat, r = [(a : Int), (b : Int)] ∧ a < b ∧ b < ps.length) → 0 ≤ sw ps l ∧ sw ps l ≤ 198 * l.length := by
    intro l
    induction l with
    | nil => intro _; simp [sw]
    | cons r l ih =>
      intro h
      obtain ⟨a, b, rfl, h2, h3⟩ := h r (by simp)
      have := ih (fun x hx => h x (by simp [hx]))
      have hd := dist_b (gP_ok hp (show a < ps.length by omega)) (gP_ok hp h3)
      have e : wt ps [(a : Int), (b : Int)] = dist (gP ps a) (gP ps b) := by simp [wt]
      simp only [sw, List.length_cons, e]
      omega
  obtain ⟨r, g1, g2⟩ := loopM_count (m_laws_FnTrees_s4 ps (L, z, bb)) L.length
    (fun i s => ∃ f : Nat → Int, s = (sw ps (L.take i), (i : Int), lbl ps.length f) ∧ Knit ps.length (L.take i) f)
    (fun r => r = Sum.inl (trV ps).2)
    (s0 := (0, 0, lbl ps.length fun j => (j : Int)))
    ⟨fun j => (j : Int), by simp [sw], fun u v _ _ h χ _ => by rw [Int.ofNat.inj h]⟩
    (by
      rintro i _ hi ⟨f, rfl, hK⟩
      left
      obtain ⟨a, b, e, hab, hb⟩ := hrow _ (List.getElem_mem hi)
      have ha : a < ps.length := by omega
      have hne : f a ≠ f b := fun hf => by
        have hpm : L.Perm ([(a : Int), (b : Int)] :: (L.take i ++ L.drop (i + 1))) := by
          have h2 : L = L.take i ++ [(a : Int), (b : Int)] :: L.drop (i + 1) := by
            rw [← e, List.getElem_cons_drop, List.take_append_drop]
          have h3 : (L.take i ++ [(a : Int), (b : Int)] :: L.drop (i + 1)).Perm ([(a : Int), (b : Int)] :: (L.take i ++ L.drop (i + 1))) := List.perm_middle
          rw [← h2] at h3
          exact h3
        obtain ⟨χ, x1, x2⟩ := hpart _ _ hpm
        refine x1 ?_
        have := hK a b ha hb hf χ (fun r hr => x2 r (List.mem_append.2 (Or.inl hr)))
        simpa [pA, pB] using this
      have hs := hsw (L.take i) (fun r hr => hrow r (List.mem_of_mem_take hr))
      have hti : (L.take i).length = i := by simp; omega
      have hd := dist_b (gP_ok hp ha) (gP_ok hp hb)
      have hg : geti L (i : Int) = some [(a : Int), (b : Int)] := by rw [geti_lt hi, e]
      have hg0 : geti [(a : Int), (b : Int)] 0 = some (a : Int) := rfl
      have hg1 : geti [(a : Int), (b : Int)] 1 = some (b : Int) := rfl
      unfold m_laws_FnTrees_s4
      simp only []
      rw [bif_t (by simpa using hi)]
      simp only [hg, hg0, hg1, bind_some']
      rw [bif_f (by simp), bif_f (by simp), bif_f (by simp; omega), bif_f (by simp; omega), lbl_at ha, lbl_at hb]
      simp only [bind_some']
      rw [bif_f (by simpa using hne), tr_s5 (by omega)]
      simp only [bind_some']
      rw [gg ha, gg hb]
      simp only [bind_some']
      rw [b10Far_eq (gP_ok hp ha) (gP_ok hp hb)]
      simp only [bind_some']
      rw [wr_in (by omega), wr_in (by omega)]
      refine ⟨_, rfl, rel (f a) (f b) f, ?_, ?_⟩
      · rw [List.take_succ_eq_append_getElem hi, sw_app, e]
        simp only [sw, wt]
        simp
      · rw [List.take_succ_eq_append_getElem hi, e]
        exact hK.step ha hb)
    (by
      rintro _ ⟨f, rfl, hK⟩
      unfold m_laws_FnTrees_s4
      simp only []
      rw [bif_f (by simp)]
      refine ⟨_, rfl, ?_⟩
      rw [List.take_length, hsum])
  rw [g1, g2]
def eL (v : Nat → Nat) (k : Nat) : List (Nat × Nat) := (List.range k).map fun j => (j + 1, v (j + 1))
theorem elen_snoc (g : Nat → Pt) (e : Nat × Nat) : ∀ l, elen g (l ++ [e]) = elen g l + dist (g e.1) (g e.2)
  | [] => by simp [elen]
  | x :: l => by show dist _ _ + elen g (l ++ [e]) = _; rw [elen_snoc g e l]; simp only [elen]; omega
theorem tr_s6 {l1 : List Int} (hl : ∀ p ∈ l1, In8 p) (hp : okPs ps = true) (h1 : 1 ≤ ps.length) (h6 : ps.length ≤ 6) : ∃ x : Int, loopM (m_laws_FnTrees_s6 l1 ps) (0, 1) = some x ∧ (trV ps).2 ≤ x := by
  have hex : ∀ i : Nat, ∃ v : Nat, 1 ≤ i → i ≤ 6 → m_laws_b10At l1 ((i : Int) + 2) (i : Int) = some (v : Int) ∧ (v : Int) < i := fun i => by
    by_cases c : 1 ≤ i ∧ i ≤ 6
    · obtain ⟨v, h⟩ := b10At_lt hl (k := (i : Int) + 2) (n := (i : Int)) (by omega) (by omega)
      exact ⟨v, fun _ _ => h⟩
    · exact ⟨0, fun a b => absurd ⟨a, b⟩ c⟩
  obtain ⟨v, hv⟩ : ∃ v : Nat → Nat, ∀ i : Nat, 1 ≤ i → i ≤ 6 → m_laws_b10At l1 ((i : Int) + 2) (i : Int) = some (v i : Int) ∧ (v i : Int) < i := ⟨fun i => Classical.choose (hex i), fun i => Classical.choose_spec (hex i)⟩
  have hsucc : ∀ k, eL v (k + 1) = eL v k ++ [(k + 1, v (k + 1))] := fun k => by unfold eL; rw [List.range_succ, List.map_append]; rfl
  have hbd : ∀ k, k + 1 ≤ ps.length → 0 ≤ elen (gP ps) (eL v k) ∧ elen (gP ps) (eL v k) ≤ 198 * k := by
    intro k
    induction k with
    | zero => intro _; simp [eL, elen]
    | succ k ih =>
      intro hk
      have := ih (by omega)
      have h2 := (hv (k + 1) (by omega) (by omega)).2
      have hd := dist_b (gP_ok hp (show k + 1 < ps.length by omega)) (gP_ok hp (show v (k + 1) < ps.length by omega))
      rw [hsucc, elen_snoc]
      simp only []
      omega
  have hrun := loop_run (step := m_laws_FnTrees_s6 l1 ps) (ps.length - 1) (fun k => (elen (gP ps) (eL v k), ((k + 1 : Nat) : Int))) (r := elen (gP ps) (eL v (ps.length - 1))) (by
    intro k hk
    have h2 := hv (k + 1) (by omega) (by omega)
    have hb0 := hbd k (by omega)
    have hd := dist_b (gP_ok hp (show k + 1 < ps.length by omega)) (gP_ok hp (show v (k + 1) < ps.length by omega))
    unfold m_laws_FnTrees_s6
    simp only []
    rw [bif_t (by simp; omega), gg (show k + 1 < ps.length by omega)]
    simp only [bind_some']
    rw [wr_in (by omega), h2.1]
    simp only [bind_some']
    rw [gg (show v (k + 1) < ps.length by omega)]
    simp only [bind_some']
    rw [b10Far_eq (gP_ok hp (show k + 1 < ps.length by omega)) (gP_ok hp (show v (k + 1) < ps.length by omega))]
    simp only [bind_some']
    rw [hsucc, elen_snoc, wr_in (by omega), wr_in (by omega)]; rfl) (by
    unfold m_laws_FnTrees_s6
    simp only []
    rw [bif_f (by simp; omega)])
  refine ⟨_, hrun, prim_le hp h1 (r := 0) (fun e he => ?_) (fun x hx => ?_)⟩
  · obtain ⟨j, hj, rfl⟩ := List.mem_map.1 he
    have := List.mem_range.1 hj
    have h2 := (hv (j + 1) (by omega) (by omega)).2
    exact ⟨by simp only []; omega, by simp only []; omega⟩
  · have all : ∀ n x, x ≤ n → x < ps.length → Con (eL v (ps.length - 1)) (fun y => y = 0) x := by
      intro n
      induction n with
      | zero => intro x h _; exact Con.base _ (by omega)
      | succ n ih =>
        intro x h hx
        by_cases c : x = 0
        · exact Con.base _ c
        · have h2 := (hv x (by omega) (by omega)).2
          refine Con.bwd (v x) x (ih (v x) (by omega) (by omega)) ?_
          unfold eL
          refine List.mem_map.2 ⟨x - 1, List.mem_range.2 (by omega), ?_⟩
          rw [show x - 1 + 1 = x by omega]
    exact all x x (Nat.le_refl _) hx
theorem three_half (ho : okPs ps = true) (hn : ps.length ≤ 6) (h1 : 1 ≤ ps.length) {p : Nat} (hp : p < NP ps) : 2 * (trV ps).2 ≤ 3 * tP ps (2 ^ ps.length - 1) p := by
  have hpos : 2 ≤ 2 ^ ps.length := by
    have := Nat.pow_le_pow_right (n := 2) (by omega) h1
    simpa using this
  obtain ⟨t, t1, t2, _, t4, t5⟩ := tree_at ho hn (2 ^ ps.length - 1) (2 ^ ps.length - 1) p (Nat.le_refl _) (by omega) (by omega) hp
  obtain ⟨r, E1, E2, e1, e2, e3⟩ := t.half ho hn t1 t2 t5
  have a1 := prim_le ho h1 (E := E1) (fun e he => e2 e (List.mem_append.2 (Or.inl he))) (fun v hv => (e1 v hv).1)
  have a2 := prim_le ho h1 (E := E2) (fun e he => e2 e (List.mem_append.2 (Or.inr he))) (fun v hv => (e1 v hv).2)
  omega
end
theorem lawTrees (l0 l1 : List Int) (h0 : ∀ p ∈ l0, In8 p) (h1 : ∀ p ∈ l1, In8 p) : m_laws_FnTrees l0 l1 = some true := by
  unfold m_laws_FnTrees m_laws_b10Long
  by_cases c0 : (l0.length : Int) > 1048576
  · rw [bif_t (by simpa using c0)]; rfl
  rw [bif_f (by simpa using c0)]
  simp only [bind_some']
  by_cases c1 : (l1.length : Int) > 1048576
  · rw [bif_t (by simpa using c1)]
  rw [bif_f (by simpa using c1)]
  obtain ⟨ps, p1, p2, p3, p4, p5⟩ := pins_drawn h0
  rw [p1]
  simp only [bind_some']
  have hB : ∀ n : Int, 6 ≤ n → pinsB n ps = true := fun n hn => by unfold pinsB; simp [p2, p3, p4]; omega
  obtain ⟨q, q1, q2, q3, q4, q5⟩ := b10Pin_ok h1 (k := 0) (by omega)
  have hq : okP q = true := by unfold okP; simp; omega
  have hspan : ∀ qs : List Pt, okPs qs = true → qs.Nodup → 1 ≤ qs.length → qs.length ≤ 20 → m_impl_SpanningTree qs = some (sortRows (trV qs).1, (trV qs).2, true) := fun qs a b c d => by
    unfold m_impl_SpanningTree
    rw [arePins_eq qs (by omega), show pinsB 20 qs = true by unfold pinsB; simp [a, b, c]; omega]
    simp only [bind_some', Bool.not_true, cond_false]
    rw [implSpan_eq a c (by omega)]
    rfl
  rw [hspan ps p2 p3 p4 (by omega)]
  simp only [bind_some']
  obtain ⟨x, p, s1, s2, s3, s4⟩ := implSt p2 (by omega) p4
  have hst : m_impl_SteinerLength ps = some (x, true) := by
    unfold m_impl_SteinerLength
    rw [implPins_eq ps 7 (by omega), hB 7 (by omega)]
    simp only [bind_some', Bool.not_true, cond_false]
    rw [s2]; rfl
  rw [hst]
  simp only [bind_some', Bool.not_true, cond_false]
  have hlen : (sortRows (trV ps).1).length = ps.length - 1 := by
    rw [(sortRows_perm (trV ps).1).length_eq]
    exact (trF_inv p2 p4 (ps.length - 1) (by omega)).1
  rw [hlen, wr_in (by omega), bif_f (by simp; omega), arePins_eq ps (by omega), hB 20 (by omega)]
  simp only [bind_some', Bool.not_true, cond_false]
  rw [mkC_ok (by unfold lim; omega)]
  simp only [bind_some', Int.toNat_natCast]
  rw [tr_s1 (by omega)]
  simp only [bind_some']
  rw [tr_s4 p2 p4 p5]
  simp only [bind_some']
  obtain ⟨y, y1, y2⟩ := tr_s6 h1 p2 p4 p5
  rw [y1]
  simp only [bind_some']
  rw [q1]
  simp only [bind_some']
  have hgain : m_impl_GainOf ps q.1 q.2 = some (gainV ps q, true) := by
    unfold m_impl_GainOf
    rw [implPins_eq ps 19 (by omega), hB 19 (by omega), IsPoint_eq, show okP (q.1, q.2) = true from hq]
    simp only [bind_some', Bool.not_true, cond_false]
    rw [implGain_eq p2 hq p4 (by omega)]
    rfl
  rw [hgain]
  simp only [bind_some', Bool.not_true, cond_false, bne_self_eq_false]
  have hb1 := trV_sum p2 p4 (by omega)
  have h64 : 2 ^ ps.length ≤ 64 := Nat.pow_le_pow_right (n := 2) (by omega) p5
  have hpos : 2 ≤ 2 ^ ps.length := by
    have := Nat.pow_le_pow_right (n := 2) (by omega) p4
    simpa using this
  have htb := (tw p2 (s := 2 ^ ps.length - 1) (by omega) (by omega) s1).2
  have hxp := s3 p s1
  have h32 := three_half p2 p5 p4 s1
  rw [bif_f (by simp; omega), wr_in (by omega), wr_in (x := 3 * x) (by omega), bif_f (by simp; omega)]
  by_cases c : q ∈ ps
  · have hg0 : gainV ps q = 0 := by unfold gainV; rw [if_pos c]
    obtain ⟨v, v1, v2⟩ := span_ge p2 p5 p4 p2 (Nat.le_refl _) (fun _ _ => rfl)
    have := s3 v v1
    rw [hg0, wr_in (by omega), bif_f (by simp; omega)]
    rw [apC_ok (by unfold lim; simp; omega)]
    simp only [bind_some', List.nil_append]
    rw [apC_ok (by unfold lim; simp; omega)]
    simp only [bind_some']
    rw [b10In_eq ps q (by omega)]
    simp only [bind_some', c, decide_true, cond_true]
    rfl
  · have hg0 : gainV ps q = (trV ps).2 - (trV (ps ++ [q])).2 := by unfold gainV; rw [if_neg c]
    have hok2 := okPs_snoc p2 hq
    have hb2 := trV_sum hok2 (by simp) (by simp; omega)
    obtain ⟨v, v1, v2⟩ := span_ge p2 p5 p4 hok2 (by simp) (fun i hi => by
      rw [gP_at (by simp; omega), gP_at hi, List.getElem_append_left hi])
    have := s3 v v1
    rw [hg0, wr_in (by omega), bif_f (by simp; omega)]
    rw [apC_ok (by unfold lim; simp; omega)]
    simp only [bind_some', List.nil_append]
    rw [apC_ok (by unfold lim; simp; omega)]
    simp only [bind_some']
    rw [b10In_eq ps q (by omega)]
    simp only [bind_some', c, decide_false, cond_false]
    have hnd : (ps ++ [q]).Nodup := by
      rw [List.nodup_append]
      exact ⟨p3, by simp, fun a ha b hb => by simp only [List.mem_singleton] at hb; subst hb; exact fun e => c (e ▸ ha)⟩
    have e2 : ((q.1, q.2) : Int × Int) = q := rfl
    rw [e2, hspan _ hok2 hnd (by simp) (by simp; omega)]
    simp only [bind_some', cond_true]
    congr 1
    simp only [beq_iff_eq]
    omega
end Go.Proofs.Ytooogkcoedampaa
