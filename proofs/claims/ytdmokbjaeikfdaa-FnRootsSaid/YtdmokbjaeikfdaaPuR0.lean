/- Trees of points: the shortest tree over the grid of the pins is no longer than any tree that joins the pins (Hanan). Points that hang together by unit steps: a tree of them is no shorter than the table says. The law of the roots: the best root's star is no longer than any star, and the steps of the bends lie between the shortest tree and the spanning tree. -/
import Derived.Test.YtdmokbjaeikfdaaPuS0
import Derived.Test.YtdmokbjaeikfdaaPuBt2
import Derived.Test.YtdmokbjaeikfdaaPuSrcP
set_option linter.unusedSimpArgs false
set_option linter.unusedVariables false
namespace Go.Proofs.Ytdmokbjaeikfdaa
open Go.RowKit

inductive DT where
  | pin (k : Nat) (p : Pt)
  | move (t : DT) (q : Pt)
  | meet (a b : DT)
def DT.root : DT → Pt
  | .pin _ p => p
  | .move _ q => q
  | .meet a _ => a.root
def DT.mask : DT → Nat
  | .pin k _ => 2 ^ k
  | .move t _ => t.mask
  | .meet a b => a.mask + b.mask
def DT.pts : DT → List Pt
  | .pin _ p => [p]
  | .move t q => q :: t.pts
  | .meet a b => a.pts ++ b.pts
def DT.ok (ps : List Pt) : DT → Prop
  | .pin k p => k < ps.length ∧ p = gP ps k
  | .move t _ => t.ok ps
  | .meet a b => a.ok ps ∧ b.ok ps ∧ a.root = b.root ∧ a.mask &&& b.mask = 0 ∧ a.mask + b.mask < 64
def DT.mx : DT → List (Int × Int)
  | .pin .. => []
  | .move t q => (t.root.1, q.1) :: t.mx
  | .meet a b => a.mx ++ b.mx
def DT.my : DT → List (Int × Int)
  | .pin .. => []
  | .move t q => (t.root.2, q.2) :: t.my
  | .meet a b => a.my ++ b.my
def DT.cost : DT → Int
  | .pin .. => 0
  | .move t q => dist t.root q + t.cost
  | .meet a b => a.cost + b.cost
def df (x y : Int) : Int := max (x - y) (y - x)
/-- The way in one direction, when the places are moved. -/
def c1 (f : Int → Int) : List (Int × Int) → Int
  | [] => 0
  | m :: l => df (f m.1) (f m.2) + c1 f l
theorem c1_app (f : Int → Int) : ∀ a b : List (Int × Int), c1 f (a ++ b) = c1 f a + c1 f b
  | [], b => by simp [c1]
  | m :: a, b => by show df _ _ + c1 f (a ++ b) = _; rw [c1_app f a b]; simp only [c1]; omega
theorem DT.cost_eq : ∀ t : DT, t.cost = c1 id t.mx + c1 id t.my
  | .pin .. => rfl
  | .move t q => by
    show dist t.root q + t.cost = (df (id t.root.1) (id q.1) + c1 id t.mx) + (df (id t.root.2) (id q.2) + c1 id t.my)
    rw [t.cost_eq]; unfold dist df; simp only [id]; omega
  | .meet a b => by
    show a.cost + b.cost = c1 id (a.mx ++ b.mx) + c1 id (a.my ++ b.my)
    rw [a.cost_eq, b.cost_eq, c1_app, c1_app]; omega
theorem two_ways {v a : Int} (hav : a < v) (f : Int → Int) : ∀ l : List (Int × Int), (∀ m ∈ l, (f m.1 ≤ a ∨ v ≤ f m.1) ∧ (f m.2 ≤ a ∨ v ≤ f m.2)) →
    (v - a + 1) * c1 f l = c1 (fun x => if f x = v then a else f x) l + (v - a) * c1 (fun x => if f x = v then v + 1 else f x) l
  | [], _ => by simp [c1]
  | m :: l, h => by
    have ih := two_ways hav f l (fun q hq => h q (List.mem_cons_of_mem _ hq))
    obtain ⟨h1, h2⟩ := h m (List.mem_cons_self ..)
    simp only [c1]
    rw [Int.mul_add, Int.mul_add, ih]
    generalize c1 (fun x => if f x = v then a else f x) l = A
    generalize c1 (fun x => if f x = v then v + 1 else f x) l = B
    have key : (v - a + 1) * df (f m.1) (f m.2) = df (if f m.1 = v then a else f m.1) (if f m.2 = v then a else f m.2) + (v - a) * df (if f m.1 = v then v + 1 else f m.1) (if f m.2 = v then v + 1 else f m.2) := by
      generalize f m.1 = p at *
      generalize f m.2 = q at *
      obtain ⟨s, hs⟩ : ∃ s, s = v - a := ⟨_, rfl⟩
      rw [← hs]
      by_cases e1 : p = v
      · by_cases e2 : q = v
        · subst e1; subst e2; simp [df]
        · rw [if_pos e1, if_neg e2, if_pos e1, if_neg e2]
          rcases h2 with h2 | h2
          · rw [show df p q = p - q by unfold df; omega, show df a q = a - q by unfold df; omega, show df (v + 1) q = v + 1 - q by unfold df; omega]
            have : a = v - s := by omega
            subst e1; rw [this]; simp only [Int.add_mul, Int.mul_add, Int.mul_sub, Int.one_mul, Int.mul_one]; omega
          · rw [show df p q = q - p by unfold df; omega, show df a q = q - a by unfold df; omega, show df (v + 1) q = q - (v + 1) by unfold df; omega]
            have : a = v - s := by omega
            subst e1; rw [this]; simp only [Int.add_mul, Int.mul_add, Int.mul_sub, Int.one_mul, Int.mul_one]; omega
      · by_cases e2 : q = v
        · rw [if_neg e1, if_pos e2, if_neg e1, if_pos e2]
          rcases h1 with h1 | h1
          · rw [show df p q = q - p by unfold df; omega, show df p a = a - p by unfold df; omega, show df p (v + 1) = v + 1 - p by unfold df; omega]
            have : a = v - s := by omega
            subst e2; rw [this]; simp only [Int.add_mul, Int.mul_add, Int.mul_sub, Int.one_mul, Int.mul_one]; omega
          · rw [show df p q = p - q by unfold df; omega, show df p a = p - a by unfold df; omega, show df p (v + 1) = p - (v + 1) by unfold df; omega]
            have : a = v - s := by omega
            subst e2; rw [this]; simp only [Int.add_mul, Int.mul_add, Int.mul_sub, Int.one_mul, Int.mul_one]; omega
        · rw [if_neg e1, if_neg e2, if_neg e1, if_neg e2, Int.add_mul, Int.one_mul]; omega
    omega
theorem great_below {P : List Int} {lo v : Int} (hlo : lo ∈ P) (h : lo ≤ v) : ∃ a ∈ P, a ≤ v ∧ ∀ y ∈ P, y ≤ v → y ≤ a := by
  obtain ⟨n, hn⟩ : ∃ n : Nat, (n : Int) = v - lo := ⟨(v - lo).toNat, by omega⟩
  induction n generalizing v with
  | zero => exact ⟨lo, hlo, h, fun y _ hy => by omega⟩
  | succ n ih =>
    by_cases hv : v ∈ P
    · exact ⟨v, hv, by omega, fun y _ hy => hy⟩
    · obtain ⟨a, h1, h2, h3⟩ := ih (v := v - 1) (by omega) (by omega)
      refine ⟨a, h1, by omega, fun y hy hyv => ?_⟩
      have : y ≠ v := fun e => hv (e ▸ hy)
      exact h3 y hy (by omega)
/-- All places can be moved to those of P, and the way grows no longer. -/
theorem oneD {P : List Int} {lo hi : Int} (hlo : lo ∈ P) (hhi : hi ∈ P) (l : List (Int × Int)) (hl : ∀ m ∈ l, (lo ≤ m.1 ∧ m.1 ≤ hi) ∧ lo ≤ m.2 ∧ m.2 ≤ hi) :
    ∃ f : Int → Int, (∀ x ∈ P, f x = x) ∧ (∀ x, lo ≤ x → x ≤ hi → f x ∈ P) ∧ c1 f l ≤ c1 id l := by
  have key : ∀ n : Nat, ∃ f : Int → Int, (∀ x ∈ P, f x = x) ∧ (∀ x, lo ≤ x → x ≤ hi → f x ∈ P ∨ (lo + n ≤ f x ∧ f x ≤ hi)) ∧ c1 f l ≤ c1 id l := by
    intro n
    induction n with
    | zero => exact ⟨id, fun x _ => rfl, fun x h1 h2 => Or.inr ⟨by simp only [id]; omega, h2⟩, Int.le_refl _⟩
    | succ n ih =>
      obtain ⟨f, h1, h2, h3⟩ := ih
      obtain ⟨v, hv⟩ : ∃ v : Int, v = lo + n := ⟨_, rfl⟩
      by_cases hvP : v ∈ P
      · refine ⟨f, h1, fun x hx1 hx2 => ?_, h3⟩
        rcases h2 x hx1 hx2 with h | ⟨g1, g2⟩
        · exact Or.inl h
        · by_cases e : f x = v
          · exact Or.inl (e ▸ hvP)
          · exact Or.inr ⟨by omega, g2⟩
      · by_cases hvh : v ≤ hi
        · have hne : v ≠ hi := fun e => hvP (e ▸ hhi)
          obtain ⟨a, ha1, ha2, ha3⟩ := great_below (v := v) hlo (by omega)
          have hav : a < v := by
            have : a ≠ v := fun e => hvP (e ▸ ha1)
            omega
          have hsp : ∀ x, lo ≤ x → x ≤ hi → f x ≤ a ∨ v ≤ f x := fun x hx1 hx2 => by
            rcases h2 x hx1 hx2 with h | ⟨g1, g2⟩
            · by_cases c : f x ≤ v
              · exact Or.inl (ha3 _ h c)
              · exact Or.inr (by omega)
            · exact Or.inr (by omega)
          have e := two_ways hav f l (fun m hm => ⟨hsp _ (hl m hm).1.1 (hl m hm).1.2, hsp _ (hl m hm).2.1 (hl m hm).2.2⟩)
          have hP : ∀ x ∈ P, f x ≠ v := fun x hx e => hvP (by rw [h1 x hx] at e; exact e ▸ hx)
          by_cases c : c1 (fun x => if f x = v then a else f x) l ≤ c1 f l
          · refine ⟨_, fun x hx => ?_, fun x hx1 hx2 => ?_, Int.le_trans c h3⟩
            · show (if f x = v then a else f x) = x
              rw [if_neg (hP x hx), h1 x hx]
            · show (if f x = v then a else f x) ∈ P ∨ (lo + ((n + 1 : Nat) : Int) ≤ (if f x = v then a else f x) ∧ (if f x = v then a else f x) ≤ hi)
              by_cases e1 : f x = v
              · rw [if_pos e1]; exact Or.inl ha1
              · rw [if_neg e1]
                rcases h2 x hx1 hx2 with h | ⟨g1, g2⟩
                · exact Or.inl h
                · exact Or.inr ⟨by omega, g2⟩
          · have hB : c1 (fun x => if f x = v then v + 1 else f x) l ≤ c1 f l := by
              by_cases hc : c1 f l < c1 (fun x => if f x = v then v + 1 else f x) l
              · have h5 : (v - a) * c1 f l < (v - a) * c1 (fun x => if f x = v then v + 1 else f x) l := Int.mul_lt_mul_of_pos_left hc (by omega)
                rw [Int.add_mul, Int.one_mul] at e
                omega
              · omega
            refine ⟨_, fun x hx => ?_, fun x hx1 hx2 => ?_, Int.le_trans hB h3⟩
            · show (if f x = v then v + 1 else f x) = x
              rw [if_neg (hP x hx), h1 x hx]
            · show (if f x = v then v + 1 else f x) ∈ P ∨ (lo + ((n + 1 : Nat) : Int) ≤ (if f x = v then v + 1 else f x) ∧ (if f x = v then v + 1 else f x) ≤ hi)
              by_cases e1 : f x = v
              · rw [if_pos e1]; exact Or.inr ⟨by omega, by omega⟩
              · rw [if_neg e1]
                rcases h2 x hx1 hx2 with h | ⟨g1, g2⟩
                · exact Or.inl h
                · exact Or.inr ⟨by omega, g2⟩
        · refine ⟨f, h1, fun x hx1 hx2 => ?_, h3⟩
          rcases h2 x hx1 hx2 with h | ⟨g1, g2⟩
          · exact Or.inl h
          · omega
  obtain ⟨f, h1, h2, h3⟩ := key (hi - lo).toNat.succ
  refine ⟨f, h1, fun x hx1 hx2 => ?_, h3⟩
  rcases h2 x hx1 hx2 with h | ⟨g1, g2⟩
  · exact h
  · omega
section
variable {ps : List Pt}
theorem mem_han {x y : Int} (hx : x ∈ ps.map (·.1)) (hy : y ∈ ps.map (·.2)) : (x, y) ∈ hanV ps := by
  obtain ⟨p, hp, rfl⟩ := List.mem_map.1 hx
  obtain ⟨q, hq, rfl⟩ := List.mem_map.1 hy
  obtain ⟨i, hi, rfl⟩ := List.mem_iff_getElem.1 hp
  obtain ⟨j, hj, rfl⟩ := List.mem_iff_getElem.1 hq
  unfold hanV
  rw [mem_setPts]
  unfold hanF
  refine List.mem_flatMap.2 ⟨i, List.mem_range.2 hi, ?_⟩
  unfold hanRow
  refine List.mem_map.2 ⟨j, List.mem_range.2 hj, ?_⟩
  rw [gP_at hi, gP_at hj]
theorem distS0 (p : Pt) : dist p p = 0 := by unfold dist; omega
theorem distE0 {p q : Pt} (h : dist p q = 0) : p = q := by
  unfold dist at h
  exact Prod.ext (by omega) (by omega)
theorem idx_han {p : Pt} (h : p ∈ hanV ps) : ∃ v, v < NP ps ∧ gP (hanV ps) v = p := by
  obtain ⟨v, hv, e⟩ := List.mem_iff_getElem.1 h
  exact ⟨v, hv, by rw [gP_at hv, e]⟩
theorem part_of {A B : Nat} (h : A + B < 64) (hA : 0 < A) (hB : 0 < B) (h0 : A &&& B = 0) : A ∈ parts (A + B) := by
  have := apart3 (A := A) (B := B) (C := 0) (by omega) (by omega) h0 (by simp) (by omega)
  exact parts_mem.2 ⟨hA, by omega, by simpa using this.2.2.1⟩
/-- A tree that is moved onto the grid is no shorter than the table says. -/
theorem table_le (ho : okPs ps = true) (hn : ps.length ≤ 6) (h1 : 1 ≤ ps.length) (f g : Int → Int) (hf : ∀ x ∈ ps.map (·.1), f x = x) (hg : ∀ y ∈ ps.map (·.2), g y = y) : ∀ t : DT, t.ok ps → t.mask < 64 →
    (∀ p ∈ t.pts, (f p.1, g p.2) ∈ hanV ps) → 0 < t.mask ∧ (f t.root.1, g t.root.2) ∈ hanV ps ∧ ∀ v, v < NP ps → gP (hanV ps) v = (f t.root.1, g t.root.2) → tP ps t.mask v ≤ c1 f t.mx + c1 g t.my := by
  obtain ⟨p0, hp0, he0⟩ := idx_han (pin_in (ps := ps) (k := 0) (by omega))
  have M := metP ho (m := 0) hp0 he0
  intro t
  induction t with
  | pin k p =>
    intro hok hm hin
    obtain ⟨hk, rfl⟩ := hok
    have hx : f (gP ps k).1 = (gP ps k).1 := hf _ (List.mem_map.2 ⟨_, by rw [gP_at hk]; exact List.getElem_mem hk, rfl⟩)
    have hy : g (gP ps k).2 = (gP ps k).2 := hg _ (List.mem_map.2 ⟨_, by rw [gP_at hk]; exact List.getElem_mem hk, rfl⟩)
    refine ⟨Nat.two_pow_pos k, hin _ (by simp [DT.pts, DT.root]), fun v hv hvp => ?_⟩
    have h2 := tT_le (pdP ps) (dP ps) (NP ps) (s := 2 ^ k) (Nat.two_pow_pos k) hv hv
    rw [mm_one (pdP ps) (dP ps) (NP ps) (single_pow (by omega)), M.self v hv] at h2
    have e : pdP ps k v = 0 := by
      have hv2 : gP (hanV ps) v = gP ps k := by rw [hvp]; exact Prod.ext hx hy
      unfold pdP
      simp only [hv2, distS0]
    show tT (pdP ps) (dP ps) (NP ps) (2 ^ k) v ≤ _
    simp only [DT.mx, DT.my, c1]
    omega
  | move t q ih =>
    intro hok hm hin
    obtain ⟨g1, g2, g3⟩ := ih hok hm (fun p hp => hin p (by simp [DT.pts, hp]))
    refine ⟨g1, hin _ (by simp [DT.pts, DT.root]), fun v hv hvp => ?_⟩
    obtain ⟨u, hu, hup⟩ := idx_han g2
    have h2 := g3 u hu hup
    have h3 := move M (s := t.mask) g1 hu hv
    have e : dP ps u v = df (f t.root.1) (f q.1) + df (g t.root.2) (g q.2) := by
      unfold dP
      rw [hup, hvp]; rfl
    show tT (pdP ps) (dP ps) (NP ps) t.mask v ≤ (df (f t.root.1) (f q.1) + c1 f t.mx) + (df (g t.root.2) (g q.2) + c1 g t.my)
    have h2' : tT (pdP ps) (dP ps) (NP ps) t.mask u ≤ c1 f t.mx + c1 g t.my := h2
    omega
  | meet a b iha ihb =>
    intro hok hm hin
    obtain ⟨oa, ob, hr, hand, hlt⟩ := hok
    obtain ⟨a1, a2, a3⟩ := iha oa (by omega) (fun p hp => hin p (by simp [DT.pts, hp]))
    obtain ⟨b1, b2, b3⟩ := ihb ob (by omega) (fun p hp => hin p (by simp [DT.pts, hp]))
    refine ⟨by show 0 < a.mask + b.mask; omega, a2, fun v hv hvp => ?_⟩
    have h2 := a3 v hv hvp
    have h3 := b3 v hv (by rw [← hr]; exact hvp)
    have h4 := mm_le (pdP ps) (dP ps) (NP ps) (v := v) (s := a.mask + b.mask) (by omega) (by omega) (part_of hlt a1 b1 hand)
    rw [show a.mask + b.mask - a.mask = b.mask by omega] at h4
    have h5 := tT_le (pdP ps) (dP ps) (NP ps) (s := a.mask + b.mask) (by omega) hv hv
    rw [M.self v hv] at h5
    have h2' : tT (pdP ps) (dP ps) (NP ps) a.mask v ≤ c1 f a.mx + c1 g a.my := h2
    have h3' : tT (pdP ps) (dP ps) (NP ps) b.mask v ≤ c1 f b.mx + c1 g b.my := h3
    show tT (pdP ps) (dP ps) (NP ps) (a.mask + b.mask) v ≤ c1 f (a.mx ++ b.mx) + c1 g (a.my ++ b.my)
    rw [c1_app, c1_app]
    omega
def inBox (ps : List Pt) (p : Pt) : Prop := (∃ q ∈ ps, q.1 ≤ p.1) ∧ (∃ q ∈ ps, p.1 ≤ q.1) ∧ (∃ q ∈ ps, q.2 ≤ p.2) ∧ ∃ q ∈ ps, p.2 ≤ q.2
theorem ends_of {P : List Int} (h : P ≠ []) : ∃ lo ∈ P, ∃ hi ∈ P, ∀ x ∈ P, lo ≤ x ∧ x ≤ hi := by
  induction P with
  | nil => exact absurd rfl h
  | cons a l ih =>
    by_cases c : l = []
    · subst c; exact ⟨a, by simp, a, by simp, fun x hx => by simp at hx; omega⟩
    · obtain ⟨lo, h1, hi, h2, h3⟩ := ih c
      refine ⟨min a lo, ?_, max a hi, ?_, fun x hx => ?_⟩
      · by_cases c2 : a ≤ lo
        · rw [show min a lo = a by omega]; simp
        · rw [show min a lo = lo by omega]; simp [h1]
      · by_cases c2 : a ≤ hi
        · rw [show max a hi = hi by omega]; simp [h2]
        · rw [show max a hi = a by omega]; simp
      · rcases List.mem_cons.1 hx with rfl | hx
        · omega
        · have := h3 x hx; omega
theorem mv_pts : ∀ t : DT, ∀ (Q : Pt → Prop), (∀ p ∈ t.pts, Q p) → Q t.root ∧ (∀ m ∈ t.mx, ∃ p q, Q p ∧ Q q ∧ m = (p.1, q.1)) ∧ ∀ m ∈ t.my, ∃ p q, Q p ∧ Q q ∧ m = (p.2, q.2)
  | .pin k p, Q, h => ⟨h p (by simp [DT.pts]), by simp [DT.mx], by simp [DT.my]⟩
  | .move t q, Q, h => by
    obtain ⟨h1, h2, h3⟩ := mv_pts t Q (fun p hp => h p (by simp [DT.pts, hp]))
    have hq := h q (by simp [DT.pts])
    refine ⟨hq, fun m hm => ?_, fun m hm => ?_⟩
    · rcases List.mem_cons.1 hm with rfl | hm
      · exact ⟨_, _, h1, hq, rfl⟩
      · exact h2 m hm
    · rcases List.mem_cons.1 hm with rfl | hm
      · exact ⟨_, _, h1, hq, rfl⟩
      · exact h3 m hm
  | .meet a b, Q, h => by
    obtain ⟨h1, h2, h3⟩ := mv_pts a Q (fun p hp => h p (by simp [DT.pts, hp]))
    obtain ⟨k1, k2, k3⟩ := mv_pts b Q (fun p hp => h p (by simp [DT.pts, hp]))
    refine ⟨h1, fun m hm => ?_, fun m hm => ?_⟩
    · rcases List.mem_append.1 hm with hm | hm
      · exact h2 m hm
      · exact k2 m hm
    · rcases List.mem_append.1 hm with hm | hm
      · exact h3 m hm
      · exact k3 m hm
/-- Hanan: the table is no more than any tree's length. -/
theorem hanan_le (ho : okPs ps = true) (hn : ps.length ≤ 6) (h1 : 1 ≤ ps.length) (t : DT) (ht : t.ok ps) (hm : t.mask < 64) (hb : ∀ p ∈ t.pts, inBox ps p) : 0 < t.mask ∧ ∃ v, v < NP ps ∧ tP ps t.mask v ≤ t.cost := by
  have hne : ps ≠ [] := fun e => by rw [e] at h1; simp at h1
  obtain ⟨lx, hlx, hx, hhx, hX⟩ := ends_of (P := ps.map (·.1)) (by simpa using hne)
  obtain ⟨ly, hly, hy, hhy, hY⟩ := ends_of (P := ps.map (·.2)) (by simpa using hne)
  have hin : ∀ p ∈ t.pts, (lx ≤ p.1 ∧ p.1 ≤ hx) ∧ ly ≤ p.2 ∧ p.2 ≤ hy := fun p hp => by
    obtain ⟨⟨q1, m1, e1⟩, ⟨q2, m2, e2⟩, ⟨q3, m3, e3⟩, q4, m4, e4⟩ := hb p hp
    have a1 := hX _ (List.mem_map.2 ⟨q1, m1, rfl⟩)
    have a2 := hX _ (List.mem_map.2 ⟨q2, m2, rfl⟩)
    have a3 := hY _ (List.mem_map.2 ⟨q3, m3, rfl⟩)
    have a4 := hY _ (List.mem_map.2 ⟨q4, m4, rfl⟩)
    omega
  obtain ⟨_, hmx, hmy⟩ := mv_pts t (fun p => (lx ≤ p.1 ∧ p.1 ≤ hx) ∧ ly ≤ p.2 ∧ p.2 ≤ hy) hin
  obtain ⟨f, f1, f2, f3⟩ := oneD hlx hhx t.mx (fun m hm => by obtain ⟨p, q, hp, hq, rfl⟩ := hmx m hm; exact ⟨hp.1, hq.1⟩)
  obtain ⟨g, g1, g2, g3⟩ := oneD hly hhy t.my (fun m hm => by obtain ⟨p, q, hp, hq, rfl⟩ := hmy m hm; exact ⟨hp.2, hq.2⟩)
  obtain ⟨a1, a2, a3⟩ := table_le ho hn h1 f g f1 g1 t ht hm (fun p hp => mem_han (f2 _ (hin p hp).1.1 (hin p hp).1.2) (g2 _ (hin p hp).2.1 (hin p hp).2.2))
  obtain ⟨v, hv, hvp⟩ := idx_han a2
  refine ⟨a1, v, hv, ?_⟩
  have := a3 v hv hvp
  rw [t.cost_eq]
  omega
end
end Go.Proofs.Ytdmokbjaeikfdaa

set_option linter.unusedSimpArgs false
set_option linter.unusedVariables false
set_option linter.unusedSectionVars false
namespace Go.Proofs.Ytdmokbjaeikfdaa
open Go.RowKit

def ck9 : Bool := (List.range 64).all fun A => (List.range 64).all fun B => (A &&& B != 0) || (List.range 64).all fun C => (A &&& C != 0) || (B &&& C != 0) || ((A + B) &&& C == 0)
theorem ck9_ok : ck9 = true := by decide +kernel
theorem add3 {A B C : Nat} (hA : A < 64) (hB : B < 64) (hC : C < 64) (h1 : A &&& B = 0) (h2 : A &&& C = 0) (h3 : B &&& C = 0) : (A + B) &&& C = 0 := by
  have h := List.all_eq_true.1 (List.all_eq_true.1 ck9_ok A (List.mem_range.2 hA)) B (List.mem_range.2 hB)
  simp only [Bool.or_eq_true, bne_iff_ne, ne_eq] at h
  rcases h with h | h
  · exact absurd h1 h
  have h4 := List.all_eq_true.1 h C (List.mem_range.2 hC)
  simp only [Bool.or_eq_true, bne_iff_ne, ne_eq, beq_iff_eq] at h4
  rcases h4 with (h4 | h4) | h4
  · exact absurd h2 h4
  · exact absurd h3 h4
  · exact h4
def ms : List DT → Nat
  | [] => 0
  | t :: l => t.mask + ms l
def cs : List DT → Int
  | [] => 0
  | t :: l => t.cost + cs l
theorem ms_app : ∀ a b : List DT, ms (a ++ b) = ms a + ms b
  | [], b => by simp [ms]
  | t :: a, b => by show t.mask + ms (a ++ b) = _; rw [ms_app a b]; simp only [ms]; omega
theorem cs_app : ∀ a b : List DT, cs (a ++ b) = cs a + cs b
  | [], b => by simp [cs]
  | t :: a, b => by show t.cost + cs (a ++ b) = _; rw [cs_app a b]; simp only [cs]; omega
theorem ms_perm {a b : List DT} (h : a.Perm b) : ms a = ms b ∧ cs a = cs b := by
  induction h with
  | nil => exact ⟨rfl, rfl⟩
  | cons x _ ih => exact ⟨by simp only [ms]; omega, by simp only [cs]; omega⟩
  | swap x y l => exact ⟨by simp only [ms]; omega, by simp only [cs]; omega⟩
  | trans _ _ h1 h2 => exact ⟨h1.1.trans h2.1, h1.2.trans h2.2⟩
def Apt (a b : DT) : Prop := a.mask &&& b.mask = 0
theorem Apt.symm {a b : DT} (h : Apt a b) : Apt b a := by unfold Apt at *; rw [Nat.and_comm]; exact h
theorem ms_le {l : List DT} {t : DT} (h : t ∈ l) : t.mask ≤ ms l := by
  induction l with
  | nil => simp at h
  | cons a l ih =>
    rcases List.mem_cons.1 h with rfl | h
    · simp only [ms]; omega
    · have := ih h
      simp only [ms]; omega
theorem ms_apt : ∀ (l : List DT) (t : DT), l.Pairwise Apt → (∀ a ∈ l, Apt a t) → ms l < 64 → t.mask < 64 → ms l &&& t.mask = 0
  | [], t, _, _, _, _ => by simp [ms]
  | a :: l, t, hp, ht, hm, htm => by
    obtain ⟨h1, h2⟩ := List.pairwise_cons.1 hp
    simp only [ms] at hm ⊢
    have i1 := ms_apt l t h2 (fun b hb => ht b (List.mem_cons_of_mem _ hb)) (by omega) htm
    have i2 := ms_apt l a h2 (fun b hb => (h1 b hb).symm) (by omega) (by omega)
    exact add3 (by omega) (by omega) htm (by rw [Nat.and_comm]; exact i2) (ht a (List.mem_cons_self ..)) i1
section
variable {ps : List Pt}
/-- All that lies at one point, as one tree. -/
theorem merge {v : Pt} : ∀ l : List DT, l ≠ [] → l.Pairwise Apt → ms l < 64 → (∀ t ∈ l, t.ok ps ∧ t.root = v ∧ ∀ p ∈ t.pts, inBox ps p) →
    ∃ t : DT, t.ok ps ∧ t.root = v ∧ t.mask = ms l ∧ t.cost = cs l ∧ ∀ p ∈ t.pts, inBox ps p
  | [], h, _, _, _ => absurd rfl h
  | [a], _, _, _, h => by
    obtain ⟨h1, h2, h3⟩ := h a (by simp)
    exact ⟨a, h1, h2, by simp [ms], by simp [cs], h3⟩
  | a :: b :: l, _, hp, hm, h => by
    obtain ⟨h1, h2⟩ := List.pairwise_cons.1 hp
    have hm' : a.mask + ms (b :: l) < 64 := hm
    obtain ⟨t, t1, t2, t3, t4, t5⟩ := merge (b :: l) (by simp) h2 (by omega) (fun t ht => h t (List.mem_cons_of_mem _ ht))
    obtain ⟨a1, a2, a3⟩ := h a (by simp)
    have hap := ms_apt (b :: l) a h2 (fun c hc => (h1 c hc).symm) (by omega) (by omega)
    refine ⟨DT.meet a t, ⟨a1, t1, by rw [a2, t2], by rw [t3, Nat.and_comm]; exact hap, by rw [t3]; exact hm'⟩, a2, by show a.mask + t.mask = _; rw [t3]; rfl, by show a.cost + t.cost = _; rw [t4]; rfl, fun p hp => ?_⟩
    rcases List.mem_append.1 hp with hp | hp
    · exact a3 p hp
    · exact t5 p hp
/-- A tree of points, each beside an earlier one, by steps of L. -/
inductive Tr (L : List Pt) : List Pt → Prop where
  | one (r : Pt) : Tr L [r]
  | add {V : List Pt} {u v : Pt} : Tr L V → u ∈ V → v ∉ V → dist u v = 1 → pAdd u v ∈ L → Tr L (v :: V)
theorem step_uniq {u v a b : Pt} (h1 : dist u v = 1) (h2 : dist a b = 1) (h : pAdd u v = pAdd a b) : v = a ∨ v = b := by
  have e1 : u.1 + v.1 = a.1 + b.1 := congrArg Prod.fst h
  have e2 : u.2 + v.2 = a.2 + b.2 := congrArg Prod.snd h
  unfold dist at h1 h2
  by_cases c : v.1 = a.1 ∧ v.2 = a.2
  · exact Or.inl (Prod.ext c.1 c.2)
  · right
    exact Prod.ext (by omega) (by omega)
theorem dc_sub : ∀ (n : Nat) (L l : List Pt), L.length = n → l.Nodup → (∀ x ∈ l, x ∈ L) → l.length ≤ dc L := by
  intro n
  induction n with
  | zero =>
    intro L l hL hn hs
    have : L = [] := List.length_eq_zero_iff.1 hL
    subst this
    cases l with
    | nil => simp
    | cons a l => exact absurd (hs a (by simp)) (by simp)
  | succ n ih =>
    intro L l hL hn hs
    have hne : L ≠ [] := fun e => by rw [e] at hL; simp at hL
    have hx := List.dropLast_concat_getLast hne
    generalize L.getLast hne = x at hx
    rw [← hx, dc_snoc]
    have hl : L.dropLast.length = n := by simp [hL]
    have h1 := ih L.dropLast (l.erase x) hl (hn.sublist (List.erase_sublist ..)) (fun y hy => by
      obtain ⟨e1, e2⟩ := (hn.mem_erase_iff).1 hy
      have := hs y e2
      rw [← hx] at this
      rcases List.mem_append.1 this with h | h
      · exact h
      · simp only [List.mem_singleton] at h; exact absurd h e1)
    by_cases c : x ∈ L.dropLast
    · have h2 := ih L.dropLast l hl hn (fun y hy => by
        have := hs y hy
        rw [← hx] at this
        rcases List.mem_append.1 this with h | h
        · exact h
        · simp only [List.mem_singleton] at h; subst h; exact c)
      omega
    · rw [if_neg c]
      have h3 : l.length ≤ (l.erase x).length + 1 := by rw [List.length_erase]; split <;> omega
      omega
theorem Tr.edges {L V : List Pt} (h : Tr L V) : ∃ l : List Pt, l.Nodup ∧ (∀ s ∈ l, s ∈ L) ∧ l.length + 1 = V.length ∧ ∀ s ∈ l, ∃ a b, a ∈ V ∧ b ∈ V ∧ dist a b = 1 ∧ s = pAdd a b := by
  induction h with
  | one r => exact ⟨[], List.nodup_nil, by simp, rfl, by simp⟩
  | @add V u v _ hu hv hd hL ih =>
    obtain ⟨l, l1, l2, l3, l4⟩ := ih
    refine ⟨pAdd u v :: l, List.nodup_cons.2 ⟨fun hm => ?_, l1⟩, fun s hs => ?_, by simp [l3], fun s hs => ?_⟩
    · obtain ⟨a, b, ha, hb, hab, e⟩ := l4 _ hm
      rcases step_uniq hd hab e with rfl | rfl
      · exact hv ha
      · exact hv hb
    · rcases List.mem_cons.1 hs with rfl | hs
      · exact hL
      · exact l2 s hs
    · rcases List.mem_cons.1 hs with rfl | hs
      · exact ⟨u, v, List.mem_cons_of_mem _ hu, List.mem_cons_self .., hd, rfl⟩
      · obtain ⟨a, b, ha, hb, hab, e⟩ := l4 s hs
        exact ⟨a, b, List.mem_cons_of_mem _ ha, List.mem_cons_of_mem _ hb, hab, e⟩
theorem Tr.len {L V : List Pt} (h : Tr L V) : V.length ≤ dc L + 1 := by
  obtain ⟨l, l1, l2, l3, _⟩ := h.edges
  have := dc_sub _ L l rfl l1 l2
  omega
theorem part_perm (q : DT → Bool) (l : List DT) : (l.filter q ++ l.filter (fun t => !q t)).Perm l := List.filter_append_perm q l
theorem Tr.tree {L V : List Pt} (h : Tr L V) : (∀ p ∈ V, inBox ps p) → ∀ ts : List DT, ts ≠ [] → ts.Pairwise Apt → ms ts < 64 → (∀ t ∈ ts, t.ok ps ∧ t.root ∈ V ∧ ∀ p ∈ t.pts, inBox ps p) →
    ∃ t : DT, t.ok ps ∧ t.mask = ms ts ∧ t.cost ≤ cs ts + ((V.length : Int) - 1) ∧ ∀ p ∈ t.pts, inBox ps p := by
  induction h with
  | one r =>
    intro hV ts hne hp hm ht
    obtain ⟨t, t1, t2, t3, t4, t5⟩ := merge (v := r) ts hne hp hm (fun t h => ⟨(ht t h).1, by have := (ht t h).2.1; simpa using this, (ht t h).2.2⟩)
    exact ⟨t, t1, t3, by rw [t4]; simp, t5⟩
  | @add V u v hT hu hv hd hL ih =>
    intro hV ts hne hp hm ht
    have hV' : ∀ p ∈ V, inBox ps p := fun p hp => hV p (List.mem_cons_of_mem _ hp)
    have hperm := part_perm (fun t => decide (t.root = v)) ts
    generalize hA : ts.filter (fun t => decide (t.root = v)) = A at hperm
    generalize hB : ts.filter (fun t => !decide (t.root = v)) = B at hperm
    have hp2 : (A ++ B).Pairwise Apt := (hperm.pairwise_iff (fun h => h.symm)).2 hp
    obtain ⟨pA, pB, pAB⟩ := List.pairwise_append.1 hp2
    obtain ⟨em, ec⟩ := ms_perm hperm
    rw [ms_app] at em
    rw [cs_app] at ec
    have inA : ∀ t ∈ A, t ∈ ts ∧ t.root = v := fun t h => by rw [← hA] at h; simpa using h
    have inB : ∀ t ∈ B, t ∈ ts ∧ t.root ≠ v := fun t h => by rw [← hB] at h; simpa using h
    have rB : ∀ t ∈ B, t.root ∈ V := fun t h => by
      obtain ⟨h1, h2⟩ := inB t h
      rcases List.mem_cons.1 (ht t h1).2.1 with h3 | h3
      · exact absurd h3 h2
      · exact h3
    by_cases cA : A = []
    · subst cA
      have hBne : B ≠ [] := fun e => hne (by rw [e] at hperm; exact List.perm_nil.1 hperm.symm |>.trans rfl)
      simp only [ms, cs] at em ec
      obtain ⟨t, t1, t2, t3, t4⟩ := ih hV' B hBne pB (by omega) (fun t h => ⟨(ht t (inB t h).1).1, rB t h, (ht t (inB t h).1).2.2⟩)
      exact ⟨t, t1, by omega, by simp only [List.length_cons]; omega, t4⟩
    · obtain ⟨a, a1, a2, a3, a4, a5⟩ := merge (v := v) A cA pA (by omega) (fun t h => ⟨(ht t (inA t h).1).1, (inA t h).2, (ht t (inA t h).1).2.2⟩)
      obtain ⟨t, t1, t2, t3, t4⟩ := ih hV' (DT.move a u :: B) (by simp) (List.pairwise_cons.2 ⟨fun b hb => by
          show a.mask &&& b.mask = 0
          rw [a3]
          exact ms_apt A b pA (fun c hc => pAB c hc b hb) (by omega) (by have := ms_le hb; omega), pB⟩)
        (by show a.mask + ms B < 64; omega) (fun t h => by
          rcases List.mem_cons.1 h with rfl | h
          · refine ⟨a1, hu, fun p hp => ?_⟩
            rcases List.mem_cons.1 hp with rfl | hp
            · exact hV' _ hu
            · exact a5 p hp
          · exact ⟨(ht t (inB t h).1).1, rB t h, (ht t (inB t h).1).2.2⟩)
      refine ⟨t, t1, by rw [t2]; show a.mask + ms B = _; omega, ?_, t4⟩
      have e1 : cs (DT.move a u :: B) = (dist a.root u + a.cost) + cs B := rfl
      rw [e1, a2, dist_comm, hd, a4] at t3
      simp only [List.length_cons]; omega
/-- Along a way, the tree grows to its end. -/
theorem Tr.walk {L : List Pt} (Q : Pt → Prop) (w : Nat → Pt) : ∀ (k : Nat) {V : List Pt}, Tr L V → (∀ p ∈ V, Q p) → w 0 ∈ V → (∀ j, j ≤ k → Q (w j)) → (∀ j, j < k → dist (w j) (w (j + 1)) = 1 ∧ pAdd (w j) (w (j + 1)) ∈ L) →
    ∃ V', Tr L V' ∧ (∀ p ∈ V', Q p) ∧ (∀ p ∈ V, p ∈ V') ∧ w k ∈ V'
  | 0, V, hT, hQ, h0, _, _ => ⟨V, hT, hQ, fun _ h => h, h0⟩
  | k + 1, V, hT, hQ, h0, hq, hs => by
    obtain ⟨V', v1, v2, v3, v4⟩ := Tr.walk Q w k hT hQ h0 (fun j hj => hq j (by omega)) (fun j hj => hs j (by omega))
    by_cases c : w (k + 1) ∈ V'
    · exact ⟨V', v1, v2, v3, c⟩
    · obtain ⟨s1, s2⟩ := hs k (by omega)
      refine ⟨w (k + 1) :: V', Tr.add v1 v4 c s1 s2, fun p hp => ?_, fun p hp => List.mem_cons_of_mem _ (v3 p hp), List.mem_cons_self ..⟩
      rcases List.mem_cons.1 hp with rfl | hp
      · exact hq _ (Nat.le_refl _)
      · exact v2 p hp
def Btw (p q x : Pt) : Prop := (min p.1 q.1 ≤ x.1 ∧ x.1 ≤ max p.1 q.1) ∧ min p.2 q.2 ≤ x.2 ∧ x.2 ≤ max p.2 q.2
theorem sgn_b (x : Int) : (x < 0 ∧ sgn x = -1) ∨ (x = 0 ∧ sgn x = 0) ∨ (0 < x ∧ sgn x = 1) := by
  unfold sgn
  by_cases c : x < 0
  · exact Or.inl ⟨c, if_pos c⟩
  · by_cases c2 : x > 0
    · exact Or.inr (Or.inr ⟨c2, by rw [if_neg c, if_pos c2]⟩)
    · exact Or.inr (Or.inl ⟨by omega, by rw [if_neg c, if_neg c2]⟩)
theorem it_btw (p q : Pt) : ∀ k, Btw p q (it q p k)
  | 0 => by unfold Btw it; omega
  | k + 1 => by
    have ih := it_btw p q k
    show Btw p q (stp q (it q p k))
    generalize it q p k = x at *
    unfold Btw stp at *
    simp only []
    have h1 := sgn_b (q.1 - x.1)
    have h2 := sgn_b (q.2 - x.2)
    omega
theorem Btw.trans {p q c x : Pt} (hc : Btw p q c) (hx : Btw p c x) : Btw p q x := by unfold Btw at *; omega
theorem Btw.trans' {p q c x : Pt} (hc : Btw p q c) (hx : Btw c q x) : Btw p q x := by unfold Btw at *; omega
theorem cnr_btw (p q : Pt) (ac : Bool) : Btw p q (cnr p q ac) := by cases ac <;> (unfold Btw cnr; simp; omega)
theorem box_btw {p q x : Pt} (hp : p ∈ ps) (hq : q ∈ ps) (h : Btw p q x) : inBox ps x := by
  unfold Btw at h
  refine ⟨?_, ?_, ?_, ?_⟩
  · by_cases c : p.1 ≤ q.1
    · exact ⟨p, hp, by omega⟩
    · exact ⟨q, hq, by omega⟩
  · by_cases c : p.1 ≤ q.1
    · exact ⟨q, hq, by omega⟩
    · exact ⟨p, hp, by omega⟩
  · by_cases c : p.2 ≤ q.2
    · exact ⟨p, hp, by omega⟩
    · exact ⟨q, hq, by omega⟩
  · by_cases c : p.2 ≤ q.2
    · exact ⟨q, hq, by omega⟩
    · exact ⟨p, hp, by omega⟩
/-- One bent way: its points, one after the other. -/
theorem bent_way {p q : Pt} (hp : okP p = true) (hq : okP q = true) (ac : Bool) : ∃ (k : Nat) (w : Nat → Pt), w 0 = p ∧ w k = q ∧ (∀ j, j ≤ k → Btw p q (w j)) ∧ ∀ j, j < k → dist (w j) (w (j + 1)) = 1 ∧ pAdd (w j) (w (j + 1)) ∈ smS p q ac := by
  obtain ⟨c1, c2, c3, _⟩ := cnr_ok hp hq ac
  have hl := smS_len hp hq ac
  have g : ∀ {j : Nat} {x : Pt}, (pth p q ac)[j]? = some x → gP (pth p q ac) j = x := fun hx => by unfold gP; simp [List.getD, hx]
  refine ⟨(smS p q ac).length, gP (pth p q ac), g (pth_at1 hp hq ac (j := 0) (by omega)), ?_, fun j hj => ?_, fun j hj => ?_⟩
  · rw [hl, g (pth_at2 hp hq ac (i := dN (cnr p q ac) q) (by omega))]
    exact it_end c1 hq c3
  · by_cases c : j ≤ dN p (cnr p q ac)
    · rw [g (pth_at1 hp hq ac c)]
      exact (cnr_btw p q ac).trans (it_btw _ _ _)
    · obtain ⟨i, rfl⟩ : ∃ i, j = dN p (cnr p q ac) + i := ⟨j - dN p (cnr p q ac), by omega⟩
      rw [g (pth_at2 hp hq ac (i := i) (by omega))]
      exact (cnr_btw p q ac).trans' (it_btw _ _ _)
  · refine ⟨(pth_unit hp hq ac hj).2.2, ?_⟩
    exact List.mem_of_getElem? (smS_at hp hq ac hj).1
theorem pAdd_comm (a b : Pt) : pAdd a b = pAdd b a := by unfold pAdd; exact Prod.ext (by simp; omega) (by simp; omega)
theorem row_in {R : List (List Int)} {n : Nat} {a b : Nat} (hm : [(a : Int), (b : Int)] ∈ R) : ∃ ac, ∀ s ∈ smS (gP ps a) (gP ps b) ac, s ∈ allS ps R n R.length := by
  obtain ⟨i, hi, e⟩ := List.mem_iff_getElem.1 hm
  refine ⟨strB R.length n i, fun s hs => ?_⟩
  unfold allS
  refine List.mem_flatMap.2 ⟨i, List.mem_range.2 hi, ?_⟩
  have e2 : R.getD i [] = [(a : Int), (b : Int)] := by simp [List.getD, List.getElem?_eq_getElem hi, e]
  unfold rowS rA rB
  rw [e2]
  exact hs
theorem gP_mem {k : Nat} (hk : k < ps.length) : gP ps k ∈ ps := by rw [gP_at hk]; exact List.getElem_mem hk
theorem inBox_self {p : Pt} (h : p ∈ ps) : inBox ps p := ⟨⟨p, h, Int.le_refl _⟩, ⟨p, h, Int.le_refl _⟩, ⟨p, h, Int.le_refl _⟩, p, h, Int.le_refl _⟩
/-- All the pins hang together by the steps of a choice. -/
theorem grown (hp : okPs ps = true) (h1 : 1 ≤ ps.length) {R : List (List Int)} (hR : ∀ r ∈ (trV ps).1, r ∈ R) (n : Nat) : ∀ k, k + 1 ≤ ps.length → ∃ V, Tr (allS ps R n R.length) V ∧ (∀ p ∈ V, inBox ps p) ∧ ∀ i, i < ps.length → (trF ps k).2.2.getD i false = true → gP ps i ∈ V := by
  have hsub : ∀ k, k + 1 ≤ ps.length → ∀ r ∈ (trF ps k).1, r ∈ (trV ps).1 := by
    have : ∀ d k, k + d + 1 ≤ ps.length → ∀ r ∈ (trF ps k).1, r ∈ (trF ps (k + d)).1 := by
      intro d
      induction d with
      | zero => exact fun k _ r hr => hr
      | succ d ih =>
        intro k hk r hr
        have h2 := ih k (by omega) r hr
        obtain ⟨a, b, e, _⟩ := trF_step hp h1 (k := k + d) (by omega)
        show r ∈ (match outF ps (trF ps (k + d)).2.2 ps.length with
          | none => trF ps (k + d)
          | some (a, b) => ((trF ps (k + d)).1 ++ [[(a : Int), (b : Int)]], (trF ps (k + d)).2.1 + dist (gP ps a) (gP ps b), ((trF ps (k + d)).2.2.set a true).set b true)).1
        rw [e]
        exact List.mem_append.2 (Or.inl h2)
    intro k hk r hr
    have := this (ps.length - 1 - k) k (by omega) r hr
    rw [show k + (ps.length - 1 - k) = ps.length - 1 by omega] at this
    exact this
  intro k
  induction k with
  | zero =>
    intro _
    refine ⟨[gP ps 0], Tr.one _, fun p hm => ?_, fun i hi hr => ?_⟩
    · simp only [List.mem_singleton] at hm; subst hm; exact inBox_self (gP_mem (by omega))
    · by_cases c : i = 0
      · subst c; simp
      · exfalso
        have : (trF ps 0).2.2.getD i false = false := by
          show ((List.replicate ps.length false).set 0 true).getD i false = false
          simp [List.getD, List.getElem?_set, Ne.symm c, List.getElem?_replicate, hi]
        rw [this] at hr; exact absurd hr (by simp)
  | succ k ih =>
    intro hk
    obtain ⟨V, v1, v2, v3⟩ := ih (by omega)
    obtain ⟨a, b, e, hab, hb, hne⟩ := trF_step hp h1 (k := k) (by omega)
    obtain ⟨hlen, hlenR, _⟩ := trF_inv hp h1 k (by omega)
    have hne' : (trF ps k).2.2.getD a false ≠ (trF ps k).2.2.getD b false := (outF_ok (ps := ps) (R := (trF ps k).2.2) ps.length (Nat.le_refl _) a b e).2.2
    have e1 : trF ps (k + 1) = ((trF ps k).1 ++ [[(a : Int), (b : Int)]], (trF ps k).2.1 + dist (gP ps a) (gP ps b), ((trF ps k).2.2.set a true).set b true) := by
      show (match outF ps (trF ps k).2.2 ps.length with
          | none => trF ps k
          | some (a, b) => ((trF ps k).1 ++ [[(a : Int), (b : Int)]], (trF ps k).2.1 + dist (gP ps a) (gP ps b), ((trF ps k).2.2.set a true).set b true)) = _
      rw [e]
    have hin : [(a : Int), (b : Int)] ∈ R := hR _ (hsub (k + 1) hk _ (by rw [e1]; simp))
    obtain ⟨ac, hac⟩ := row_in (ps := ps) (n := n) hin
    have ha : a < ps.length := by omega
    obtain ⟨m, w, w1, w2, w3, w4⟩ := bent_way (gP_ok hp ha) (gP_ok hp hb) ac
    have hq : ∀ j, j ≤ m → inBox ps (w j) := fun j hj => box_btw (gP_mem ha) (gP_mem hb) (w3 j hj)
    have key : ∃ V', Tr (allS ps R n R.length) V' ∧ (∀ p ∈ V', inBox ps p) ∧ (∀ p ∈ V, p ∈ V') ∧ gP ps a ∈ V' ∧ gP ps b ∈ V' := by
      by_cases ca : (trF ps k).2.2.getD a false = true
      · obtain ⟨V', q1, q2, q3, q4⟩ := Tr.walk (inBox ps) w m v1 v2 (by rw [w1]; exact v3 a ha ca) hq (fun j hj => ⟨(w4 j hj).1, hac _ (w4 j hj).2⟩)
        exact ⟨V', q1, q2, q3, q3 _ (v3 a ha ca), w2 ▸ q4⟩
      · have cb : (trF ps k).2.2.getD b false = true := by
          revert hne' ca
          cases (trF ps k).2.2.getD a false <;> cases (trF ps k).2.2.getD b false <;> simp
        obtain ⟨V', q1, q2, q3, q4⟩ := Tr.walk (inBox ps) (fun j => w (m - j)) m v1 v2 (by simp only [Nat.sub_zero]; rw [w2]; exact v3 b hb cb) (fun j hj => hq _ (by omega)) (fun j hj => by
          obtain ⟨x1, x2⟩ := w4 (m - (j + 1)) (by omega)
          rw [show m - (j + 1) + 1 = m - j by omega] at x1 x2
          exact ⟨by rw [dist_comm]; exact x1, hac _ (by rw [pAdd_comm]; exact x2)⟩)
        simp only [Nat.sub_self] at q4
        exact ⟨V', q1, q2, q3, w1 ▸ q4, q3 _ (v3 b hb cb)⟩
    obtain ⟨V', q1, q2, q3, q4, q5⟩ := key
    refine ⟨V', q1, q2, fun i hi hr => ?_⟩
    rw [e1] at hr
    by_cases c1 : i = b
    · subst c1; exact q5
    · by_cases c2 : i = a
      · subst c2; exact q4
      · refine q3 _ (v3 i hi ?_)
        have : (((trF ps k).2.2.set a true).set b true).getD i false = (trF ps k).2.2.getD i false := by
          simp [List.getD, List.getElem?_set, Ne.symm c1, Ne.symm c2]
        rw [← this]; exact hr
theorem all_true {R : List Bool} (h : R.count true = R.length) {i : Nat} (hi : i < R.length) : R.getD i false = true := by
  have h2 := List.count_eq_length.1 h
  have := h2 _ (List.getElem_mem hi)
  simp [List.getD, List.getElem?_eq_getElem hi, ← this]
def pinT (ps : List Pt) (n : Nat) : List DT := (List.range n).map fun k => DT.pin k (gP ps k)
theorem pinT_ms : ∀ n, ms (pinT ps n) = 2 ^ n - 1 ∧ cs (pinT ps n) = 0
  | 0 => ⟨rfl, rfl⟩
  | n + 1 => by
    obtain ⟨h1, h2⟩ := pinT_ms n
    unfold pinT at *
    rw [List.range_succ, List.map_append, ms_app, cs_app, h1, h2]
    have := Nat.two_pow_pos n
    refine ⟨?_, rfl⟩
    simp only [List.map_cons, List.map_nil, ms, DT.mask]
    rw [Nat.pow_succ]; omega
def ck10 : Bool := (List.range 6).all fun i => (List.range 6).all fun j => (i == j) || (2 ^ i &&& 2 ^ j == 0)
theorem ck10_ok : ck10 = true := by decide +kernel
theorem pinT_apt {n : Nat} (hn : n ≤ 6) : (pinT ps n).Pairwise Apt := by
  unfold pinT
  rw [List.pairwise_map]
  refine (List.nodup_range (n := n)).imp_of_mem (fun {a b} ha hb hab => ?_)
  have h := List.all_eq_true.1 (List.all_eq_true.1 ck10_ok a (List.mem_range.2 (by have := List.mem_range.1 ha; omega))) b (List.mem_range.2 (by have := List.mem_range.1 hb; omega))
  simp only [Bool.or_eq_true, beq_iff_eq] at h
  rcases h with h | h
  · exact absurd h hab
  · exact h
/-- The steps of a choice are no fewer than the shortest tree's length. -/
theorem steps_ge (hp : okPs ps = true) (h1 : 1 ≤ ps.length) (h6 : ps.length ≤ 6) {R : List (List Int)} (hR : ∀ r ∈ (trV ps).1, r ∈ R) (n : Nat) : ∃ v, v < NP ps ∧ tP ps (2 ^ ps.length - 1) v ≤ (usedV ps R n : Int) := by
  obtain ⟨V, v1, v2, v3⟩ := grown hp h1 hR n (ps.length - 1) (by omega)
  obtain ⟨_, hl, hc, _⟩ := trF_inv hp h1 (ps.length - 1) (by omega)
  have hin : ∀ i, i < ps.length → gP ps i ∈ V := fun i hi => v3 i hi (all_true (by omega) (by omega))
  obtain ⟨m1, m2⟩ := pinT_ms (ps := ps) ps.length
  have h64 : 2 ^ ps.length ≤ 64 := Nat.pow_le_pow_right (n := 2) (by omega) h6
  have hpos := Nat.two_pow_pos ps.length
  obtain ⟨t, t1, t2, t3, t4⟩ := v1.tree v2 (pinT ps ps.length) (fun e => by
      have := congrArg List.length e
      rw [show (pinT ps ps.length).length = ps.length by simp [pinT]] at this; simp only [List.length_nil] at this; omega) (pinT_apt h6) (by omega) (fun t ht => by
      obtain ⟨k, hk, rfl⟩ := List.mem_map.1 ht
      have hk' := List.mem_range.1 hk
      refine ⟨⟨hk', rfl⟩, hin k hk', fun p hm => ?_⟩
      simp only [DT.pts, List.mem_singleton] at hm
      subst hm
      exact inBox_self (gP_mem hk'))
  obtain ⟨_, v, hv, hle⟩ := hanan_le hp h6 h1 t t1 (by omega) t4
  refine ⟨v, hv, ?_⟩
  rw [t2, m1] at hle
  have := v1.len
  unfold usedV
  rw [m2] at t3
  omega
end
end Go.Proofs.Ytdmokbjaeikfdaa

set_option linter.unusedSimpArgs false
set_option linter.unusedVariables false
set_option linter.unusedSectionVars false
namespace Go.Proofs.Ytdmokbjaeikfdaa
open Go.RowKit

theorem okPs_snoc {ps : List Pt} {p : Pt} (h : okPs ps = true) (hp : okP p = true) : okPs (ps ++ [p]) = true := by
  unfold okPs at h ⊢
  rw [List.all_append, h]
  simp [hp]
theorem pins_drawn {l : List Int} (hl : ∀ p ∈ l, In8 p) : ∃ ps, m_spec_B10Pins l 6 = some ps ∧ okPs ps = true ∧ ps.Nodup ∧ 1 ≤ ps.length ∧ ps.length ≤ 6 := by
  unfold m_spec_B10Pins m_spec_l00From m_spec_l05DrawOk_bspecl00Src
  simp only [bind_some']
  obtain ⟨v, k', s', e1, e2, e3, e4, e5⟩ := src_pick1 (k := 0) (s := 0) (n := 6) hl (by omega) (by omega) (by omega) (by omega)
  rw [e1]
  simp only [bind_some']
  obtain ⟨r, g1, g2, g3, g4, g5⟩ := loopM_count (m_spec_l05DrawOk_bspecl00Src_s1 l) (1 + v).toNat
    (fun j s => okPs s.1 = true ∧ s.1.Nodup ∧ s.1.length ≤ j ∧ (0 < j → 1 ≤ s.1.length) ∧ s.2.1 = 1 + v - j ∧ 0 ≤ s.2.2.1 ∧ s.2.2.1 ≤ 1 + 2 * j)
    (fun r => okPs r.1 = true ∧ r.1.Nodup ∧ 1 ≤ r.1.length ∧ r.1.length ≤ 6)
    (s0 := (([] : List (Int × Int)), wr (1 + v), k', s')) ⟨rfl, List.nodup_nil, by simp, by omega, by rw [wr_in (by omega)]; simp, e4, by simp; omega⟩
    (by
      rintro j ⟨acc, x, k, s⟩ hj ⟨a1, a2, a3, a4, a5, a6, a7⟩
      simp only at a1 a2 a3 a4 a5 a6 a7
      subst a5
      unfold m_spec_l05DrawOk_bspecl00Src_s1
      simp only []
      rw [bif_t (by simp; omega)]
      obtain ⟨x1, k1, s1, b1, b2, b3, b4, b5⟩ := src_pick1 (k := k) (s := s) (n := 9) hl (by omega) (by omega) (by omega) (by omega)
      rw [b1]
      simp only [bind_some']
      obtain ⟨y1, k2, s2, c1, c2, c3, c4, c5⟩ := src_pick1 (k := k1) (s := s1) (n := 9) hl (by omega) (by omega) (by omega) (by omega)
      rw [c1]
      simp only [bind_some']
      obtain ⟨i, i1, i2⟩ := Index_eq acc (x1, y1) (by omega)
      rw [i1]
      simp only [bind_some']
      left
      by_cases hm : (x1, y1) ∈ acc
      · have hi : i ≥ 0 := by simpa [hm] using i2
        rw [bif_f (by simp; omega)]
        refine ⟨_, rfl, a1, a2, by show acc.length ≤ j + 1; omega, fun _ => List.length_pos_of_mem hm, by simp only []; rw [wr_in (by omega)]; omega, by simp only []; omega, by simp only []; omega⟩
      · have hi : ¬ i ≥ 0 := by simpa [hm] using i2
        rw [bif_t (by simp; omega), apC_ok (by unfold lim; simp; omega)]
        refine ⟨_, rfl, okPs_snoc a1 (by unfold okP; simp; omega), ?_, by simp; omega, fun _ => by simp, by simp only []; rw [wr_in (by omega)]; omega, by simp only []; omega, by simp only []; omega⟩
        show (acc ++ [(x1, y1)]).Nodup
        rw [List.nodup_append]
        exact ⟨a2, by simp, fun a ha b hb => by simp only [List.mem_singleton] at hb; subst hb; exact fun e => hm (e ▸ ha)⟩)
    (by
      rintro ⟨acc, x, k, s⟩ ⟨a1, a2, a3, a4, a5, a6, a7⟩
      simp only at a1 a2 a3 a4 a5 a6 a7
      subst a5
      unfold m_spec_l05DrawOk_bspecl00Src_s1
      simp only []
      rw [bif_f (by simp; omega)]
      exact ⟨_, rfl, a1, a2, a4 (by omega), by show acc.length ≤ 6; omega⟩)
  rw [g1]
  exact ⟨r.1, rfl, g2, g3, g4, g5⟩
theorem specSpan_eq {all : List Pt} (h : okPs all = true) (hn : all.Nodup) (h1 : 1 ≤ all.length) (hb : all.length ≤ 20) : m_spec_SpanningTree all = some (sortRows (trV all).1, (trV all).2, true) := by
  unfold m_spec_SpanningTree
  rw [specPins_eq all (by omega)]
  have hB : pinsB 20 all = true := by unfold pinsB; simp [h, hn, h1]; omega
  simp only [bind_some', hB, Bool.not_true, cond_false]
  obtain ⟨i1, _⟩ := trF_inv h h1 (all.length - 1) (by omega)
  rw [specTree_eq h h1 (by omega)]
  simp only [bind_some']
  rw [pairs_eq (ll := (trV all).1) (fun r hr => by have := trF_rows (ps := all) (all.length - 1) r hr; omega) (by unfold trV; simp only []; omega)]
  rfl
theorem b10At_ok {l : List Int} (hl : ∀ p ∈ l, In8 p) {k : Int} (hk : 0 ≤ k ∧ k ≤ 100) : ∃ v, m_laws_b10At l k 10 = some v ∧ 0 ≤ v ∧ v < 10 := by
  unfold m_laws_b10At
  rw [bif_f (by simp)]
  have hnz : nzC 10 = some () := by unfold nzC; simp [chk]
  by_cases hc : k < l.length
  · rw [bif_t (by simpa using hc)]
    obtain ⟨n, rfl⟩ := Int.eq_ofNat_of_zero_le hk.1
    have hn : n < l.length := by omega
    have h8 := hl _ (List.getElem_mem hn)
    rw [geti_lt hn]
    simp only [bind_some', hnz]
    unfold In8 at h8
    rw [wr_in (by omega)]
    exact ⟨_, rfl, Int.tmod_nonneg _ (by omega), by rw [Int.tmod_eq_emod_of_nonneg (by omega)]; omega⟩
  · rw [bif_f (by simpa using hc)]
    simp only [bind_some', hnz]
    rw [wr_in (x := k * 37) (by omega), wr_in (by omega)]
    exact ⟨_, rfl, Int.tmod_nonneg _ (by omega), by rw [Int.tmod_eq_emod_of_nonneg (by omega)]; omega⟩
theorem b10Pin_ok {l : List Int} (hl : ∀ p ∈ l, In8 p) {k : Int} (hk : 0 ≤ k ∧ k ≤ 99) : ∃ p : Pt, m_laws_b10Pin l k = some p ∧ 0 ≤ p.1 ∧ p.1 < 10 ∧ 0 ≤ p.2 ∧ p.2 < 10 := by
  unfold m_laws_b10Pin
  obtain ⟨x, x1, x2, x3⟩ := b10At_ok hl (k := k) (by omega)
  obtain ⟨y, y1, y2, y3⟩ := b10At_ok hl (k := k + 1) (by omega)
  rw [x1, wr_in (by omega)]
  simp only [bind_some']
  rw [y1]
  exact ⟨(x, y), rfl, x2, x3, y2, y3⟩
def sm (f : Pt → Int) : List Pt → Int
  | [] => 0
  | p :: l => f p + sm f l
theorem sm_app (f : Pt → Int) : ∀ a b, sm f (a ++ b) = sm f a + sm f b
  | [], b => by simp [sm]
  | p :: a, b => by show f p + sm f (a ++ b) = _; rw [sm_app f a b]; simp only [sm]; omega
theorem starF_sm (ps : List Pt) (r : Pt) : ∀ k, k ≤ ps.length → starF ps r k = sm (fun p => dist p r) (ps.take k)
  | 0, _ => by simp [starF, sm]
  | k + 1, h => by
    rw [List.take_succ_eq_append_getElem (by omega), sm_app]
    show starF ps r k + dist (gP ps k) r = _
    rw [starF_sm ps r k (by omega), gP_at (by omega)]
    simp [sm]
theorem starV_sm (ps : List Pt) (r : Pt) : starV ps r = sm (fun p => dist p r) ps := by
  unfold starV; rw [starF_sm ps r _ (Nat.le_refl _), List.take_length]
theorem sm_add (f g : Pt → Int) : ∀ l, sm (fun p => f p + g p) l = sm f l + sm g l
  | [] => rfl
  | p :: l => by simp only [sm]; rw [sm_add f g l]; omega
theorem sm_le {f g : Pt → Int} : ∀ l : List Pt, (∀ p ∈ l, f p ≤ g p) → sm f l ≤ sm g l
  | [], _ => Int.le_refl _
  | p :: l, h => by
    have := sm_le l (fun q hq => h q (List.mem_cons_of_mem _ hq))
    have := h p (List.mem_cons_self ..)
    simp only [sm]; omega
theorem c1_sm (f : Int → Int) (c : Pt → Int) (x : Int) : ∀ l : List Pt, c1 f (l.map fun p => (c p, x)) = sm (fun p => df (f (c p)) (f x)) l
  | [] => rfl
  | p :: l => by simp only [List.map_cons, c1, sm]; rw [c1_sm f c x l]
/-- In one direction, some pin's place is as good as any place. -/
theorem best_at {ps : List Pt} (c : Pt → Int) (hne : ps ≠ []) (x : Int) : ∃ y ∈ ps.map c, sm (fun p => df (c p) y) ps ≤ sm (fun p => df (c p) x) ps := by
  obtain ⟨lo, hlo, hi, hhi, hX⟩ := ends_of (P := ps.map c) (by simpa using hne)
  have hb : ∀ p ∈ ps, lo ≤ c p ∧ c p ≤ hi := fun p hp => hX _ (List.mem_map.2 ⟨p, hp, rfl⟩)
  by_cases c1' : x < lo
  · exact ⟨lo, hlo, sm_le _ fun p hp => by have := hb p hp; unfold df; omega⟩
  by_cases c2' : hi < x
  · exact ⟨hi, hhi, sm_le _ fun p hp => by have := hb p hp; unfold df; omega⟩
  obtain ⟨f, f1, f2, f3⟩ := oneD hlo hhi (ps.map fun p => (c p, x)) (fun m hm => by
    obtain ⟨p, hp, rfl⟩ := List.mem_map.1 hm
    have := hb p hp
    exact ⟨this, by simp only []; omega⟩)
  refine ⟨f x, f2 x (by omega) (by omega), ?_⟩
  rw [c1_sm, c1_sm] at f3
  have e : sm (fun p => df (c p) (f x)) ps ≤ sm (fun p => df (f (c p)) (f x)) ps := sm_le _ fun p hp => by
    rw [f1 _ (List.mem_map.2 ⟨p, hp, rfl⟩)]; exact Int.le_refl _
  exact Int.le_trans e f3
theorem star_han {ps : List Pt} (hne : ps ≠ []) (r : Pt) : ∃ h ∈ hanV ps, starV ps h ≤ starV ps r := by
  obtain ⟨x, hx, ex⟩ := best_at (fun p => p.1) hne r.1
  obtain ⟨y, hy, ey⟩ := best_at (fun p => p.2) hne r.2
  refine ⟨(x, y), mem_han hx hy, ?_⟩
  rw [starV_sm, starV_sm]
  have e : ∀ q : Pt, sm (fun p => dist p q) ps = sm (fun p => df p.1 q.1) ps + sm (fun p => df p.2 q.2) ps := fun q => by rw [← sm_add]; rfl
  rw [e, e]
  have ex' : sm (fun p => df p.1 x) ps ≤ sm (fun p => df p.1 r.1) ps := ex
  have ey' : sm (fun p => df p.2 y) ps ≤ sm (fun p => df p.2 r.2) ps := ey
  show sm (fun p => df p.1 x) ps + sm (fun p => df p.2 y) ps ≤ _
  omega
theorem rootF_min (ps all : List Pt) : ∀ k, ∀ j, j < k → starV ps (rootF ps all k) ≤ starV ps (gP all j)
  | 0, j, h => absurd h (by omega)
  | k + 1, j, h => by
    have ih := rootF_min ps all k
    rw [show rootF ps all (k + 1) = if starV ps (gP all k) < starV ps (rootF ps all k) then gP all k else rootF ps all k from rfl]
    by_cases hj : j = k
    · subst hj; split <;> omega
    · have := ih j (by omega)
      split <;> omega
theorem root_min {ps : List Pt} (hne : ps ≠ []) (r : Pt) : starV ps (rootF ps (hanV ps) (hanV ps).length) ≤ starV ps r := by
  obtain ⟨h, hm, hle⟩ := star_han hne r
  obtain ⟨j, hj, e⟩ := List.mem_iff_getElem.1 hm
  have := rootF_min ps (hanV ps) (hanV ps).length j hj
  rw [gP_at hj, e] at this
  omega
section
variable {ps : List Pt}
def wt (ps : List Pt) (r : List Int) : Int := dist (gP ps (r.getD 0 0).toNat) (gP ps (r.getD 1 0).toNat)
def sw (ps : List Pt) : List (List Int) → Int
  | [] => 0
  | r :: l => wt ps r + sw ps l
theorem sw_app (ps : List Pt) : ∀ a b, sw ps (a ++ b) = sw ps a + sw ps b
  | [], b => by simp [sw]
  | r :: a, b => by show wt ps r + sw ps (a ++ b) = _; rw [sw_app ps a b]; simp only [sw]; omega
theorem sw_perm {a b : List (List Int)} (h : a.Perm b) : sw ps a = sw ps b := by
  induction h with
  | nil => rfl
  | cons x _ ih => simp only [sw]; omega
  | swap x y l => simp only [sw]; omega
  | trans _ _ h1 h2 => exact h1.trans h2
theorem trF_sw (hp : okPs ps = true) (h1 : 1 ≤ ps.length) : ∀ k, k + 1 ≤ ps.length → (trF ps k).2.1 = sw ps (trF ps k).1
  | 0, _ => rfl
  | k + 1, h => by
    obtain ⟨a, b, _, _, _, e⟩ := trF_step hp h1 (k := k) (by omega)
    rw [e]
    simp only []
    rw [sw_app, ← trF_sw hp h1 k (by omega)]
    simp [sw, wt]
theorem rowS_len {R : List (List Int)} (hp : okPs ps = true) (hR : RowsT R ps.length) {n i : Nat} (hi : i < R.length) : ((rowS ps R n i).length : Int) = wt ps R[i] := by
  obtain ⟨h1, h2, h3, h4⟩ := row_ok hp hR hi
  obtain ⟨c1, c2, c3, c4⟩ := cnr_ok h1 h2 (strB R.length n i)
  have d1 := dist_b h1 c1
  have d2 := dist_b c1 h2
  unfold rowS
  rw [smS_len h1 h2]
  have e : wt ps R[i] = dist (gP ps (rA R i)) (gP ps (rB R i)) := by
    unfold wt rA rB
    rw [show R.getD i [] = R[i] by simp [List.getD, List.getElem?_eq_getElem hi]]
  rw [e]
  unfold dN
  omega
theorem allS_len {R : List (List Int)} (hp : okPs ps = true) (hR : RowsT R ps.length) (n : Nat) : ∀ k, k ≤ R.length → ((allS ps R n k).length : Int) = sw ps (R.take k)
  | 0, _ => by simp [allS, sw]
  | k + 1, h => by
    rw [allS_succ, List.length_append, List.take_succ_eq_append_getElem (by omega), sw_app]
    have := allS_len hp hR n k (by omega)
    have := rowS_len hp hR (n := n) (show k < R.length by omega)
    simp only [sw]
    omega
theorem used_le (hp : okPs ps = true) (h1 : 1 ≤ ps.length) (h7 : ps.length ≤ 7) (n : Nat) : (usedV ps (bendR ps) n : Int) ≤ (trV ps).2 := by
  obtain ⟨hR, _⟩ := bendR_ok hp h1 h7
  have h2 := allS_len hp hR n (bendR ps).length (Nat.le_refl _)
  rw [List.take_length, show sw ps (bendR ps) = sw ps (trV ps).1 from sw_perm (sortRows_perm (trV ps).1)] at h2
  have h3 : (trV ps).2 = sw ps (trV ps).1 := trF_sw hp h1 (ps.length - 1) (by omega)
  have h4 := dc_le (allS ps (bendR ps) n (bendR ps).length)
  unfold usedV
  omega
theorem specSteiner (ho : okPs ps = true) (hn : ps.length ≤ 7) (h1 : 1 ≤ ps.length) : m_spec_l05Steiner ps = some (mnF ps (2 ^ ps.length - 1) (NP ps)) := by
  have hN' : (hanV ps).length ≤ 1000000 := hanV_len ps (by omega)
  have hN : NP ps ≤ 1000000 := hN'
  have hN1 : 1 ≤ NP ps := hanV_pos h1
  have h128 := pow_lt7 (m := ps.length) hn
  have hpos := Nat.two_pow_pos ps.length
  have h2 : 2 ≤ 2 ^ ps.length := by
    have := Nat.pow_le_pow_right (n := 2) (by omega) h1
    simpa using this
  unfold m_spec_l05Steiner
  rw [specHanan_eq ps (by omega)]
  simp only [bind_some']
  rw [(shl_pow (k := ps.length) (by omega)).2, p0C_ok (by omega), (shl_pow (k := ps.length) (by omega)).1, mkC_ok (by unfold lim; omega)]
  simp only [bind_some', Int.toNat_natCast]
  rw [s23 ho hn h1 hN]
  simp only [bind_some']
  rw [wr_in (by omega), show ((2 ^ ps.length : Nat) : Int) - 1 = ((2 ^ ps.length - 1 : Nat) : Int) by omega, tab_geti (by omega) (by omega) (by omega)]
  simp only [bind_some']
  have hr0 : geti (rP ps (2 ^ ps.length - 1)) 0 = some (tP ps (2 ^ ps.length - 1) 0) := rowT_geti (v := 0) (by omega)
  unfold rP at hr0
  rw [hr0]
  simp only [bind_some']
  rw [s35 (by omega) (by omega) hn hN hN1]
  rfl
theorem mnF_le {s v : Nat} : ∀ k, v < k → mnF ps s k ≤ tP ps s v
  | 0, h => absurd h (by omega)
  | k + 1, h => by
    rw [mnF_succ]
    by_cases c : v = k
    · subst c; omega
    · have := mnF_le (s := s) (v := v) k (by omega)
      omega
theorem b10Abs_eq {n : Int} (h : -1000 ≤ n ∧ n ≤ 1000) : m_laws_b10Abs n = some (max n (-n)) := by
  unfold m_laws_b10Abs
  by_cases c : n < 0
  · rw [bif_t (by simpa using c), wr_in (by omega)]; congr 1; omega
  · rw [bif_f (by simpa using c)]; congr 1; omega
theorem b10Far_eq {p q : Pt} (hp : okP p = true) (hq : okP q = true) : m_laws_b10Far p.1 p.2 q.1 q.2 = some (dist p q) := by
  have h1 := okP_t hp
  have h2 := okP_t hq
  unfold m_laws_b10Far
  rw [wr_in (by omega), wr_in (x := p.2 - q.2) (by omega), b10Abs_eq (by omega), b10Abs_eq (by omega)]
  simp only [bind_some']
  unfold dist
  rw [wr_in (by omega)]
  congr 1; omega
theorem direct_eq {r : Pt} (h : okPs ps = true) (hr : okP r = true) (hb : ps.length ≤ 1000) (z : Int) (b : Bool) : loopM (m_laws_FnRoots_s1 ps (r, z, b)) (0, 0) = some (starV ps r) := by
  unfold starV
  have hl := loop_run (step := m_laws_FnRoots_s1 ps (r, z, b)) ps.length (fun k => (starF ps r k, (k : Int))) (r := starF ps r ps.length) (by
    intro k hk
    have h1 := starF_b h hr k (by omega)
    have h2 := dist_b (okPs_at h hk) hr
    unfold m_laws_FnRoots_s1
    simp only []
    rw [bif_t (by simpa using hk), geti_lt hk]
    simp only [bind_some']
    rw [b10Far_eq (okPs_at h hk) hr]
    simp only [bind_some', starF]
    rw [gP_at hk, wr_in (by omega), wr_in (by omega)]; rfl) (by
    unfold m_laws_FnRoots_s1
    simp only []
    rw [bif_f (by simp)])
  rw [show (starF ps r 0, ((0 : Nat) : Int)) = ((0, 0) : Int × Int) from rfl] at hl
  exact hl
end
theorem lawRoots (l0 l1 : List Int) (h0 : ∀ p ∈ l0, In8 p) (h1 : ∀ p ∈ l1, In8 p) : m_laws_FnRoots l0 l1 = some true := by
  unfold m_laws_FnRoots m_laws_b10Long
  by_cases c0 : (l0.length : Int) > 1048576
  · rw [bif_t (by simpa using c0)]; rfl
  rw [bif_f (by simpa using c0)]
  simp only [bind_some']
  by_cases c1 : (l1.length : Int) > 1048576
  · rw [bif_t (by simpa using c1)]
  rw [bif_f (by simpa using c1)]
  obtain ⟨ps, p1, p2, p3, p4, p5⟩ := pins_drawn h0
  rw [p1]
  simp only [bind_some']
  have hB : pinsB 7 ps = true := by unfold pinsB; simp [p2, p3, p4]; omega
  have hB20 : pinsB 20 ps = true := by unfold pinsB; simp [p2, p3, p4]; omega
  have hne : ps ≠ [] := fun e => by rw [e] at p4; simp at p4
  obtain ⟨q, q1, q2, q3, q4, q5⟩ := b10Pin_ok h1 (k := 0) (by omega)
  have hq : okP q = true := by unfold okP; simp; omega
  have hroot := rootF_ok (ps := ps) (hanV_ok p2) (hanV_pos p4) (hanV ps).length (Nat.le_refl _)
  have hmin := root_min hne q
  have hbr : m_impl_BestRoot ps = some (rootF ps (hanV ps) (hanV ps).length, starV ps (rootF ps (hanV ps) (hanV ps).length), true) := by
    rw [implRoot_eq ps (by omega)]; unfold rootV; rw [if_pos hB20]
  have hsl : ∀ r : Pt, okP r = true → m_impl_StarLength ps r.1 r.2 = some (starV ps r, true) := fun r hr => by
    unfold m_impl_StarLength
    rw [arePins_eq ps (by omega), hB20, IsPoint_eq, show okP (r.1, r.2) = true from hr]
    simp only [bind_some', Bool.not_true, cond_false]
    rw [implStar_eq p2 hr (by omega)]
    rfl
  generalize rootF ps (hanV ps) (hanV ps).length = r at *
  rw [hbr]
  simp only [bind_some']
  rw [hsl r hroot, q1]
  simp only [bind_some']
  rw [hsl q hq]
  simp only [bind_some']
  obtain ⟨hR, hRl⟩ := bendR_ok p2 p4 (by omega)
  have hbend : m_impl_BendTree ps = some (bstr (chL (bendR ps).length (bstF (usedV ps (bendR ps)) (2 ^ (bendR ps).length)).1), (bstF (usedV ps (bendR ps)) (2 ^ (bendR ps).length)).2, true) := by
    rw [implBend ps (by omega)]; unfold bendV; rw [if_pos hB]
  rw [hbend, specSpan_eq p2 p3 p4 (by omega)]
  simp only [bind_some']
  have hst : m_spec_SteinerLength ps = some (mnF ps (2 ^ ps.length - 1) (NP ps), true) := by
    unfold m_spec_SteinerLength
    rw [specFew_eq ps (by omega), hB]
    simp only [bind_some', Bool.not_true, cond_false]
    rw [specSteiner p2 (by omega) p4]
    rfl
  rw [hst]
  simp only [bind_some', Bool.not_true, cond_false, bne_self_eq_false]
  obtain ⟨b1, b2, b3⟩ := bstF_ok (usedV ps (bendR ps)) (2 ^ (bendR ps).length) (Nat.two_pow_pos _)
  have hle0 := b3 0 (Nat.two_pow_pos _)
  have hle1 := used_le p2 p4 (by omega) 0
  obtain ⟨v, hv, hge⟩ := steps_ge p2 p4 p5 (R := bendR ps) (fun r hr => (sortRows_perm (trV ps).1).mem_iff.2 hr) (bstF (usedV ps (bendR ps)) (2 ^ (bendR ps).length)).1
  have hm := mnF_le (ps := ps) (s := 2 ^ ps.length - 1) (v := v) (NP ps) hv
  rw [bif_f (by simp; omega), bif_f (by simp; omega), bif_f (by simp; omega)]
  rw [bstr_size, show (chL (bendR ps).length (bstF (usedV ps (bendR ps)) (2 ^ (bendR ps).length)).1).length = (bendR ps).length by simp [chL], hRl, wr_in (by omega), bif_f (by simp; omega)]
  rw [direct_eq p2 hroot (by omega)]
  simp
end Go.Proofs.Ytdmokbjaeikfdaa
