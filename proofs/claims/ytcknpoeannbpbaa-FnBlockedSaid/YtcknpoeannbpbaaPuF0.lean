/- Flows: the counts of two flows that can grow no more are equal, and so is what is reached where there is room. A way on which there is room: one more flows along it. And trees of what is reached: the way from the beginning to each of its places. The first program's search: its neighbours and its room. The first program's search finds a tree of all that is reached. The bounds of the flow; the first program's room is that of the bounds, but for the two ends' own cells. On a simple way with room no step is used in its own direction. The first program lets one more way through. The first program: as many ways as there can be, and what is then reached. -/
import Derived.Test.YtcknpoeannbpbaaPur
import Derived.Test.YtcknpoeannbpbaaPuM0
import Derived.Test.YtcknpoeannbpbaaPuSet
set_option linter.unusedSimpArgs false
set_option linter.unusedVariables false
set_option linter.unusedSectionVars false
namespace Go.Proofs.Ytcknpoeannbpbaa
open Go.RowKit

section
variable {ν : Type} [DecidableEq ν]
def sumL (f : ν → Int) : List ν → Int
  | [] => 0
  | a :: l => f a + sumL f l
theorem sumL_add (f g : ν → Int) : ∀ l, sumL (fun a => f a + g a) l = sumL f l + sumL g l
  | [] => rfl
  | a :: l => by simp only [sumL]; rw [sumL_add f g l]; omega
theorem sumL_neg (f : ν → Int) : ∀ l, sumL (fun a => - f a) l = - sumL f l
  | [] => rfl
  | a :: l => by simp only [sumL]; rw [sumL_neg f l]; omega
theorem sumL_congr {f g : ν → Int} : ∀ l : List ν, (∀ a ∈ l, f a = g a) → sumL f l = sumL g l
  | [], _ => rfl
  | a :: l, h => by simp only [sumL]; rw [h a (by simp), sumL_congr l fun x hx => h x (by simp [hx])]
theorem sumL_zero {f : ν → Int} (l : List ν) (h : ∀ a ∈ l, f a = 0) : sumL f l = 0 := by
  induction l with
  | nil => rfl
  | cons a l ih => simp only [sumL]; rw [h a (by simp), ih fun x hx => h x (by simp [hx])]; rfl
theorem sumL_le {f g : ν → Int} : ∀ l : List ν, (∀ a ∈ l, f a ≤ g a) → sumL f l ≤ sumL g l
  | [], _ => Int.le_refl _
  | a :: l, h => by
    have := h a (by simp)
    have := sumL_le l fun x hx => h x (by simp [hx])
    simp only [sumL]; omega
theorem sumL_eq {f g : ν → Int} : ∀ l : List ν, (∀ a ∈ l, f a ≤ g a) → sumL f l = sumL g l → ∀ a ∈ l, f a = g a
  | [], _, _ => by simp
  | b :: l, h, e => by
    have h1 := h b (by simp)
    have h2 := sumL_le l fun x hx => h x (by simp [hx])
    simp only [sumL] at e
    intro a ha
    rcases List.mem_cons.1 ha with rfl | ha
    · omega
    · exact sumL_eq l (fun x hx => h x (by simp [hx])) (by omega) a ha
theorem sumL_swap (f : ν → ν → Int) : ∀ l m : List ν, sumL (fun a => sumL (f a) m) l = sumL (fun b => sumL (fun a => f a b) l) m
  | [], m => by simp only [sumL]; exact (sumL_zero m fun _ _ => rfl).symm
  | a :: l, m => by
    simp only [sumL]
    rw [sumL_swap f l m, ← sumL_add]
theorem sumL_one {x : ν} {c : Int} : ∀ {l : List ν}, l.Nodup → x ∈ l → sumL (fun a => if a = x then c else 0) l = c
  | [], _, h => by simp at h
  | a :: l, hn, h => by
    rw [List.nodup_cons] at hn
    simp only [sumL]
    by_cases e : a = x
    · subst e
      rw [if_pos rfl, sumL_zero l fun y hy => by rw [if_neg]; rintro rfl; exact hn.1 hy]
      omega
    · rw [if_neg e]
      have : x ∈ l := by
        rcases List.mem_cons.1 h with h | h
        · exact absurd h.symm e
        · exact h
      rw [sumL_one hn.2 this]; omega
/-- The sum over those in R. -/
def sumR (R : ν → Bool) (f : ν → Int) (l : List ν) : Int := sumL (fun a => if R a then f a else 0) l
/-- What flows: against itself the other way, within the bounds, and kept at each place but two. -/
structure Flow (Vs : List ν) (cap : ν → ν → Int) (s t : ν) (N : ν → ν → Int) : Prop where
  anti : ∀ a b, N a b = - N b a
  le : ∀ a b, N a b ≤ cap a b
  keep : ∀ a ∈ Vs, a ≠ s → a ≠ t → sumL (N a) Vs = 0
variable {Vs : List ν} {cap : ν → ν → Int} {s t : ν} {N N' : ν → ν → Int} {R R' : ν → Bool}
def outS (Vs : List ν) (N : ν → ν → Int) (s : ν) : Int := sumL (N s) Vs
/-- All that leaves R. -/
def cutS (Vs : List ν) (R : ν → Bool) (f : ν → ν → Int) : Int := sumL (fun a => sumL (fun b => if R a = true ∧ R b = false then f a b else 0) Vs) Vs
theorem inner_zero (anti : ∀ a b, N a b = - N b a) (R : ν → Bool) (Vs : List ν) : sumL (fun a => sumL (fun b => if R a = true ∧ R b = true then N a b else 0) Vs) Vs = 0 := by
  have h1 := sumL_swap (fun a b => if R a = true ∧ R b = true then N a b else 0) Vs Vs
  have h2 : sumL (fun b => sumL (fun a => if R a = true ∧ R b = true then N a b else 0) Vs) Vs = - sumL (fun a => sumL (fun b => if R a = true ∧ R b = true then N a b else 0) Vs) Vs := by
    rw [← sumL_neg]
    refine sumL_congr _ fun b _ => ?_
    rw [← sumL_neg]
    refine sumL_congr _ fun a _ => ?_
    by_cases c : R a = true ∧ R b = true
    · rw [if_pos c, if_pos ⟨c.2, c.1⟩]; exact anti a b
    · rw [if_neg c, if_neg (fun h => c ⟨h.2, h.1⟩)]; rfl
  omega
theorem Flow.cut (h : Flow Vs cap s t N) (hn : Vs.Nodup) (hs : s ∈ Vs) (hRs : R s = true) (hRt : R t = false) : outS Vs N s = cutS Vs R N := by
  have h1 : sumL (fun a => if R a = true then sumL (N a) Vs else 0) Vs = outS Vs N s := by
    rw [sumL_congr (g := fun a => if a = s then outS Vs N s else 0) Vs fun a ha => ?_]
    · exact sumL_one hn hs
    · by_cases e : a = s
      · subst e; rw [if_pos hRs, if_pos rfl]; rfl
      · rw [if_neg e]
        by_cases c : R a = true
        · rw [if_pos c]
          exact h.keep a ha e (fun e2 => by rw [e2, hRt] at c; exact absurd c (by simp))
        · rw [if_neg c]
  rw [← h1]
  have h2 : sumL (fun a => if R a = true then sumL (N a) Vs else 0) Vs = sumL (fun a => sumL (fun b => if R a = true ∧ R b = true then N a b else 0) Vs + sumL (fun b => if R a = true ∧ R b = false then N a b else 0) Vs) Vs := by
    refine sumL_congr _ fun a _ => ?_
    rw [← sumL_add]
    by_cases c : R a = true
    · rw [if_pos c]
      refine sumL_congr _ fun b _ => ?_
      cases hb : R b <;> simp [c]
    · rw [if_neg c, sumL_zero]
      intro b _
      simp [c]
  rw [h2, sumL_add, inner_zero h.anti]
  unfold cutS
  omega
theorem Flow.le_cut (h : Flow Vs cap s t N) (hn : Vs.Nodup) (hs : s ∈ Vs) (hRs : R s = true) (hRt : R t = false) : outS Vs N s ≤ cutS Vs R cap := by
  rw [h.cut hn hs hRs hRt]
  refine sumL_le _ fun a _ => sumL_le _ fun b _ => ?_
  by_cases c : R a = true ∧ R b = false
  · rw [if_pos c, if_pos c]; exact h.le a b
  · rw [if_neg c, if_neg c]; exact Int.le_refl _
/-- R is closed: from what is in it there is no room to what is not. -/
def Closed (Vs : List ν) (cap : ν → ν → Int) (N : ν → ν → Int) (R : ν → Bool) : Prop := ∀ a ∈ Vs, ∀ b ∈ Vs, R a = true → N a b < cap a b → R b = true
theorem Flow.full (h : Flow Vs cap s t N) (hn : Vs.Nodup) (hs : s ∈ Vs) (hRs : R s = true) (hRt : R t = false) (hC : Closed Vs cap N R) : outS Vs N s = cutS Vs R cap := by
  rw [h.cut hn hs hRs hRt]
  refine sumL_congr _ fun a ha => sumL_congr _ fun b hb => ?_
  by_cases c : R a = true ∧ R b = false
  · rw [if_pos c, if_pos c]
    have h1 := h.le a b
    by_cases c2 : N a b < cap a b
    · have := hC a ha b hb c.1 c2
      rw [c.2] at this; exact absurd this (by simp)
    · omega
  · rw [if_neg c, if_neg c]
/-- Two flows that can grow no more: as much flows, and each one's closed set is closed for the other. -/
theorem Flow.two (h : Flow Vs cap s t N) (h' : Flow Vs cap s t N') (hn : Vs.Nodup) (hs : s ∈ Vs) (hRs : R s = true) (hRt : R t = false) (hC : Closed Vs cap N R) (hRs' : R' s = true) (hRt' : R' t = false) (hC' : Closed Vs cap N' R') :
    outS Vs N s = outS Vs N' s ∧ Closed Vs cap N' R ∧ Closed Vs cap N R' := by
  have key : ∀ {N N' : ν → ν → Int} {R R' : ν → Bool}, Flow Vs cap s t N → Flow Vs cap s t N' → R s = true → R t = false → Closed Vs cap N R → R' s = true → R' t = false → Closed Vs cap N' R' → outS Vs N s = outS Vs N' s := by
    intro N N' R R' h h' a1 a2 a3 b1 b2 b3
    have e1 := h.full hn hs a1 a2 a3
    have e2 := h'.full hn hs b1 b2 b3
    have e3 := h'.le_cut hn hs a1 a2
    have e4 := h.le_cut hn hs b1 b2
    omega
  have cl : ∀ {N N' : ν → ν → Int} {R R' : ν → Bool}, Flow Vs cap s t N → Flow Vs cap s t N' → R s = true → R t = false → Closed Vs cap N R → R' s = true → R' t = false → Closed Vs cap N' R' → Closed Vs cap N' R := by
    intro N N' R R' h h' a1 a2 a3 b1 b2 b3
    have e := key h h' a1 a2 a3 b1 b2 b3
    have e1 := h.full hn hs a1 a2 a3
    have e2 := h'.cut hn hs a1 a2
    have hle : ∀ a b, (if R a = true ∧ R b = false then N' a b else 0) ≤ (if R a = true ∧ R b = false then cap a b else 0) := fun a b => by
      by_cases c : R a = true ∧ R b = false
      · rw [if_pos c, if_pos c]; exact h'.le a b
      · rw [if_neg c, if_neg c]; exact Int.le_refl _
    have e3 : cutS Vs R N' = cutS Vs R cap := by omega
    intro a ha b hb hRa hlt
    cases hRb : R b with
    | true => rfl
    | false =>
      exfalso
      have f1 := sumL_eq Vs (fun a _ => sumL_le Vs fun b _ => hle a b) e3 a ha
      have f2 := sumL_eq Vs (fun b _ => hle a b) f1 b hb
      rw [if_pos ⟨hRa, hRb⟩, if_pos ⟨hRa, hRb⟩] at f2
      omega
  exact ⟨key h h' hRs hRt hC hRs' hRt' hC', cl h h' hRs hRt hC hRs' hRt' hC', cl h' h hRs' hRt' hC' hRs hRt hC⟩
/-- What is reached from s, where there is room: the least closed set. -/
inductive Rch (Vs : List ν) (cap : ν → ν → Int) (N : ν → ν → Int) (s : ν) : ν → Prop where
  | base : Rch Vs cap N s s
  | step (a b : ν) : Rch Vs cap N s a → a ∈ Vs → b ∈ Vs → N a b < cap a b → Rch Vs cap N s b
theorem Rch.sub {a : ν} (h : Rch Vs cap N s a) (hRs : R s = true) (hC : Closed Vs cap N R) : R a = true := by
  induction h with
  | base => exact hRs
  | step a b _ ha hb hlt ih => exact hC a ha b hb ih hlt
/-- The reached sets of two flows that can grow no more are one. -/
theorem Flow.same (h : Flow Vs cap s t N) (h' : Flow Vs cap s t N') (hn : Vs.Nodup) (hs : s ∈ Vs) (hR : ∀ a, R a = true ↔ Rch Vs cap N s a) (hRt : R t = false) (hR' : ∀ a, R' a = true ↔ Rch Vs cap N' s a) (hRt' : R' t = false) :
    outS Vs N s = outS Vs N' s ∧ ∀ a, R a = R' a := by
  have c1 : Closed Vs cap N R := fun a ha b hb h1 h2 => (hR b).2 (Rch.step a b ((hR a).1 h1) ha hb h2)
  have c2 : Closed Vs cap N' R' := fun a ha b hb h1 h2 => (hR' b).2 (Rch.step a b ((hR' a).1 h1) ha hb h2)
  have s1 : R s = true := (hR s).2 Rch.base
  have s2 : R' s = true := (hR' s).2 Rch.base
  obtain ⟨e, d1, d2⟩ := h.two h' hn hs s1 hRt c1 s2 hRt' c2
  refine ⟨e, fun a => ?_⟩
  cases hRa : R a with
  | true => exact (((hR a).1 hRa).sub s2 d2).symm
  | false =>
    cases hRa' : R' a with
    | false => rfl
    | true =>
      have := ((hR' a).1 hRa').sub s1 d1
      rw [hRa] at this; exact absurd this (by simp)
/-- One step more through a to b. -/
def bump (N : ν → ν → Int) (a b : ν) : ν → ν → Int := fun x y => N x y + (if x = a ∧ y = b then 1 else 0) - (if x = b ∧ y = a then 1 else 0)
theorem bump_out (N : ν → ν → Int) {a b : ν} (hn : Vs.Nodup) (ha : a ∈ Vs) (hb : b ∈ Vs) (x : ν) : sumL (bump N a b x) Vs = sumL (N x) Vs + (if x = a then 1 else 0) - (if x = b then 1 else 0) := by
  have e : sumL (bump N a b x) Vs = sumL (fun y => N x y + ((if x = a ∧ y = b then 1 else 0) + - (if x = b ∧ y = a then 1 else 0))) Vs := sumL_congr _ fun y _ => by unfold bump; omega
  rw [e, sumL_add, sumL_add, sumL_neg]
  have e1 : sumL (fun y => if x = a ∧ y = b then (1 : Int) else 0) Vs = if x = a then 1 else 0 := by
    by_cases c : x = a
    · rw [if_pos c]
      rw [sumL_congr (g := fun y => if y = b then 1 else 0) Vs fun y _ => by simp [c]]
      exact sumL_one hn hb
    · rw [if_neg c]; exact sumL_zero _ fun y _ => by simp [c]
  have e2 : sumL (fun y => if x = b ∧ y = a then (1 : Int) else 0) Vs = if x = b then 1 else 0 := by
    by_cases c : x = b
    · rw [if_pos c]
      rw [sumL_congr (g := fun y => if y = a then 1 else 0) Vs fun y _ => by simp [c]]
      exact sumL_one hn ha
    · rw [if_neg c]; exact sumL_zero _ fun y _ => by simp [c]
  rw [e1, e2]; omega
theorem bump_anti (anti : ∀ a b, N a b = - N b a) (a b : ν) : ∀ x y, bump N a b x y = - bump N a b y x := fun x y => by
  unfold bump
  rw [anti x y]
  have e1 : (if x = a ∧ y = b then (1 : Int) else 0) = if y = b ∧ x = a then 1 else 0 := by by_cases c : x = a ∧ y = b <;> simp [c, and_comm]
  have e2 : (if x = b ∧ y = a then (1 : Int) else 0) = if y = a ∧ x = b then 1 else 0 := by by_cases c : x = b ∧ y = a <;> simp [c, and_comm]
  rw [e1, e2]; omega
end
end Go.Proofs.Ytcknpoeannbpbaa

set_option linter.unusedSimpArgs false
set_option linter.unusedVariables false
set_option linter.unusedSectionVars false
namespace Go.Proofs.Ytcknpoeannbpbaa
open Go.RowKit

section
variable {ν : Type} [DecidableEq ν] {Vs : List ν} {cap : ν → ν → Int} {s t : ν} {N : ν → ν → Int}
def pushP (N : ν → ν → Int) : List ν → ν → ν → Int
  | [] => N
  | [_] => N
  | a :: b :: l => bump (pushP N (b :: l)) a b
/-- Each place of the way leads to the next. -/
def Chain (room : ν → ν → Prop) : List ν → Prop
  | [] => True
  | [_] => True
  | a :: b :: l => room a b ∧ Chain room (b :: l)
def lastD (s : ν) : List ν → ν
  | [] => s
  | [a] => a
  | _ :: b :: l => lastD s (b :: l)
theorem pushP_anti (anti : ∀ a b, N a b = - N b a) : ∀ (l : List ν) (x y : ν), pushP N l x y = - pushP N l y x
  | [], x, y => anti x y
  | [_], x, y => anti x y
  | a :: b :: l, x, y => bump_anti (pushP_anti anti (b :: l)) a b x y
/-- What does not touch the way is as it was. -/
theorem pushP_off : ∀ (l : List ν) (x y : ν), x ∉ l ∨ y ∉ l → pushP N l x y = N x y
  | [], x, y, _ => rfl
  | [_], x, y, _ => rfl
  | a :: b :: l, x, y, h => by
    have ih : x ∉ b :: l ∨ y ∉ b :: l := by
      rcases h with h | h
      · exact Or.inl fun hm => h (List.mem_cons_of_mem _ hm)
      · exact Or.inr fun hm => h (List.mem_cons_of_mem _ hm)
    show bump (pushP N (b :: l)) a b x y = _
    unfold bump
    rw [pushP_off (b :: l) x y ih]
    have e1 : ¬ (x = a ∧ y = b) := fun ⟨e, e'⟩ => by
      subst e; subst e'
      rcases h with h | h
      · exact h (by simp)
      · exact h (by simp)
    have e2 : ¬ (x = b ∧ y = a) := fun ⟨e, e'⟩ => by
      subst e; subst e'
      rcases h with h | h
      · exact h (by simp)
      · exact h (by simp)
    rw [if_neg e1, if_neg e2]; omega
theorem pushP_le : ∀ l : List ν, l.Nodup → Chain (fun a b => N a b < cap a b) l → (∀ a b, N a b ≤ cap a b) → ∀ x y, pushP N l x y ≤ cap x y
  | [], _, _, h, x, y => h x y
  | [_], _, _, h, x, y => h x y
  | a :: b :: l, hn, hc, h, x, y => by
    obtain ⟨hn1, hn2⟩ := List.nodup_cons.1 hn
    obtain ⟨hc1, hc2⟩ := hc
    have ih := pushP_le (b :: l) hn2 hc2 h x y
    show bump (pushP N (b :: l)) a b x y ≤ _
    unfold bump
    by_cases c : x = a ∧ y = b
    · obtain ⟨rfl, rfl⟩ := c
      rw [pushP_off (y :: l) x y (Or.inl hn1), if_pos ⟨rfl, rfl⟩, if_neg (fun e => hn1 (by rw [e.1]; simp))]
      omega
    · rw [if_neg c]
      by_cases c2 : x = b ∧ y = a
      · rw [if_pos c2]; omega
      · rw [if_neg c2]; omega
theorem pushP_out (hn : Vs.Nodup) : ∀ (a : ν) (l : List ν), (∀ x ∈ a :: l, x ∈ Vs) → ∀ x, sumL (pushP N (a :: l) x) Vs = sumL (N x) Vs + (if x = a then 1 else 0) - (if x = lastD a (a :: l) then 1 else 0)
  | a, [], _, x => by
    show sumL (N x) Vs = sumL (N x) Vs + (if x = a then 1 else 0) - (if x = a then 1 else 0)
    exact (Int.add_sub_cancel _ _).symm
  | a, b :: l, h, x => by
    have ih := pushP_out hn b l (fun y hy => h y (List.mem_cons_of_mem _ hy)) x
    show sumL (bump (pushP N (b :: l)) a b x) Vs = _
    rw [bump_out _ hn (h a (by simp)) (h b (by simp)), ih]
    have e : lastD a (a :: b :: l) = lastD b (b :: l) := by
      show lastD a (b :: l) = lastD b (b :: l)
      have : ∀ (l : List ν) (c : ν) (p q : ν), lastD p (c :: l) = lastD q (c :: l) := by
        intro l
        induction l with
        | nil => intro c p q; rfl
        | cons d l ih => intro c p q; exact ih d p q
      exact this l b a b
    rw [e]; omega
/-- One more. -/
theorem Flow.push (h : Flow Vs cap s t N) (hn : Vs.Nodup) {l : List ν} (hl : (s :: l).Nodup) (hV : ∀ x ∈ s :: l, x ∈ Vs) (hc : Chain (fun a b => N a b < cap a b) (s :: l)) (ht : lastD s (s :: l) = t) (hst : s ≠ t) :
    Flow Vs cap s t (pushP N (s :: l)) ∧ outS Vs (pushP N (s :: l)) s = outS Vs N s + 1 := by
  have ho := pushP_out (N := N) hn s l hV
  rw [ht] at ho
  refine ⟨⟨pushP_anti h.anti _, pushP_le _ hl hc h.le, fun a ha e1 e2 => ?_⟩, ?_⟩
  · rw [ho a, h.keep a ha e1 e2, if_neg e1, if_neg e2]; rfl
  · unfold outS
    rw [ho s, if_pos rfl, if_neg hst]; omega
/-! ### Trees of what is reached -/
/-- Each place with that from which it was reached, in the order in which they were. -/
structure BTree (room : ν → ν → Prop) (s : ν) (T : List (ν × ν)) : Prop where
  head : T.head? = some (s, s)
  nd : (T.map (·.1)).Nodup
  par : ∀ i (h : i < T.length), 0 < i → ∃ j, j < i ∧ ∃ h' : j < T.length, T[i].2 = T[j].1 ∧ room T[j].1 T[i].1
variable {room : ν → ν → Prop} {T : List (ν × ν)}
theorem chain_snoc : ∀ (l : List ν) (a b : ν), Chain room (l ++ [a]) → room a b → Chain room (l ++ [a] ++ [b])
  | [], a, b, _, h => ⟨h, trivial⟩
  | [x], a, b, hc, h => ⟨hc.1, h, trivial⟩
  | x :: y :: l, a, b, hc, h => ⟨hc.1, chain_snoc (y :: l) a b hc.2 h⟩
theorem lastD_snoc (s : ν) : ∀ (l : List ν) (a : ν), lastD s (l ++ [a]) = a
  | [], a => rfl
  | [x], a => rfl
  | x :: y :: l, a => lastD_snoc s (y :: l) a
/-- The way to the place at i: by parents, each earlier than the next. -/
theorem BTree.way (h : BTree room s T) : ∀ (n i : Nat), i ≤ n → (hi : i < T.length) → ∃ l : List ν, (s :: l).Nodup ∧ Chain (fun a b => room a b ∧ (b, a) ∈ T) (s :: l) ∧ lastD s (s :: l) = T[i].1 ∧ ∀ x ∈ s :: l, ∃ j, j ≤ i ∧ ∃ hj : j < T.length, T[j].1 = x := by
  have h0 : ∀ h0 : 0 < T.length, T[0] = (s, s) := fun h0 => by
    have := h.head
    rw [List.head?_eq_getElem?, List.getElem?_eq_getElem h0] at this
    exact Option.some.inj this
  have inj : ∀ i j (hi : i < T.length) (hj : j < T.length), T[i].1 = T[j].1 → i = j := fun i j hi hj e => by
    have hi' : i < (T.map (·.1)).length := by simpa using hi
    have hj' : j < (T.map (·.1)).length := by simpa using hj
    exact (List.getElem_inj (h₀ := hi') (h₁ := hj') h.nd).1 (by simpa using e)
  intro n
  induction n with
  | zero =>
    intro i hin hi
    have : i = 0 := by omega
    subst this
    exact ⟨[], by simp, trivial, by rw [h0 hi]; rfl, fun x hx => ⟨0, Nat.le_refl _, hi, by rw [h0 hi]; simp only [List.mem_singleton] at hx; exact hx.symm⟩⟩
  | succ n ih =>
    intro i hin hi
    by_cases c : i = 0
    · subst c
      exact ⟨[], by simp, trivial, by rw [h0 hi]; rfl, fun x hx => ⟨0, Nat.le_refl _, hi, by rw [h0 hi]; simp only [List.mem_singleton] at hx; exact hx.symm⟩⟩
    · obtain ⟨j, hj, hjl, e1, e2⟩ := h.par i hi (by omega)
      obtain ⟨l, l1, l2, l3, l4⟩ := ih j (by omega) hjl
      have hnew : T[i].1 ∉ s :: l := fun hm => by
        obtain ⟨k, hk, hkl, e⟩ := l4 _ hm
        have := inj k i hkl hi e
        omega
      have hlast : ∃ l0 a, s :: l = l0 ++ [a] ∧ a = T[j].1 := by
        have hne : s :: l ≠ [] := by simp
        refine ⟨(s :: l).dropLast, (s :: l).getLast hne, (List.dropLast_concat_getLast hne).symm, ?_⟩
        rw [← l3]
        conv => rhs; rw [← List.dropLast_concat_getLast hne, lastD_snoc]
      obtain ⟨l0, a, ea, eT⟩ := hlast
      refine ⟨l ++ [T[i].1], ?_, ?_, ?_, ?_⟩
      · rw [← List.cons_append, List.nodup_append]
        exact ⟨l1, by simp, fun x hx y hy => by simp only [List.mem_singleton] at hy; subst hy; exact fun e => hnew (e ▸ hx)⟩
      · rw [← List.cons_append, ea]
        rw [ea] at l2
        refine chain_snoc l0 a _ l2 ⟨by rw [eT]; exact e2, ?_⟩
        have : (T[i].1, a) = T[i] := by rw [eT, ← e1]
        rw [this]
        exact List.getElem_mem hi
      · rw [← List.cons_append, lastD_snoc]
      · intro x hx
        rw [← List.cons_append] at hx
        rcases List.mem_append.1 hx with hx | hx
        · obtain ⟨k, hk, hkl, e⟩ := l4 x hx
          exact ⟨k, by omega, hkl, e⟩
        · simp only [List.mem_singleton] at hx
          exact ⟨i, Nat.le_refl _, hi, hx.symm⟩
end
end Go.Proofs.Ytcknpoeannbpbaa

set_option linter.unusedSimpArgs false
set_option linter.unusedVariables false
set_option linter.unusedSectionVars false
namespace Go.Proofs.Ytcknpoeannbpbaa
open Go.RowKit

abbrev Gt := Int × Int × Bool
def gp (g : Gt) : Pt := (g.1, g.2.1)
def nb (p : Pt) (k : Nat) : Pt := if k = 0 then (p.1, p.2 - 1) else if k = 1 then (p.1 - 1, p.2) else if k = 2 then (p.1 + 1, p.2) else (p.1, p.2 + 1)
def smP (p : Pt) : Prop := -20 ≤ p.1 ∧ p.1 ≤ 20 ∧ -20 ≤ p.2 ∧ p.2 ≤ 20
theorem opn_sm {c : Mz} (h : mzOk c = true) {p : Pt} (hp : opn c p = true) : 0 ≤ p.1 ∧ p.1 < mzW c ∧ 0 ≤ p.2 ∧ p.2 < c.length ∧ mzW c ≤ 12 ∧ c.length ≤ 12 := by
  obtain ⟨h1, h2, h3, h4, _⟩ := mzOk_t h
  unfold opn hasC at hp
  simp only [Bool.and_eq_true, decide_eq_true_eq] at hp
  omega
theorem next_eq {p : Pt} (hp : smP p) {k : Nat} (hk : k < 4) : m_impl_next p.1 p.2 (k : Int) = some (nb p k) := by
  unfold smP at hp
  unfold m_impl_next nb
  match k, hk with
  | 0, _ => rw [bif_t (by rfl), if_pos rfl, wr_in (by omega)]
  | 1, _ => rw [bif_f (by rfl), bif_t (by rfl), if_neg (by omega), if_pos rfl, wr_in (by omega)]
  | 2, _ => rw [bif_f (by rfl), bif_f (by rfl), bif_t (by rfl), if_neg (by omega), if_neg (by omega), if_pos rfl, wr_in (by omega)]
  | 3, _ => rw [bif_f (by rfl), bif_f (by rfl), bif_f (by rfl), if_neg (by omega), if_neg (by omega), if_neg (by omega), wr_in (by omega)]
theorem step_eq {p : Pt} (hp : smP p) {k : Nat} (hk : k < 4) : m_spec_l04Step p.1 p.2 (k : Int) = some (nb p k) := by
  unfold smP at hp
  unfold m_spec_l04Step nb
  match k, hk with
  | 0, _ => rw [bif_t (by rfl), if_pos rfl, wr_in (by omega)]
  | 1, _ => rw [bif_f (by rfl), bif_t (by rfl), if_neg (by omega), if_pos rfl, wr_in (by omega)]
  | 2, _ => rw [bif_f (by rfl), bif_f (by rfl), bif_t (by rfl), if_neg (by omega), if_neg (by omega), if_pos rfl, wr_in (by omega)]
  | 3, _ => rw [bif_f (by rfl), bif_f (by rfl), bif_f (by rfl), if_neg (by omega), if_neg (by omega), if_neg (by omega), wr_in (by omega)]
/-- The gates beside one, among the first k neighbours. -/
def bsd (c : Mz) (g : Gt) (k : Nat) : List Gt := (g.1, g.2.1, !g.2.2) :: ((List.range k).filter fun i => opn c (nb (gp g) i)).map fun i => ((nb (gp g) i).1, (nb (gp g) i).2, !g.2.2)
theorem bsd_len (c : Mz) (g : Gt) (k : Nat) : (bsd c g k).length ≤ k + 1 := by
  unfold bsd
  have := List.length_filter_le (fun i => opn c (nb (gp g) i)) (List.range k)
  simp only [List.length_cons, List.length_map, List.length_range] at *
  omega
theorem beside_eq {c : Mz} (h : mzOk c = true) {g : Gt} (hg : smP (gp g)) (x1 x2 y1 y2 : Int) (U : List ((Int × Int × Bool × Int × Int × Bool) × Bool)) :
    m_impl_flow_beside_bimplflow_bimplMaze c x1 x2 y1 y2 U g.1 g.2.1 g.2.2 = some (bsd c g 4) := by
  unfold m_impl_flow_beside_bimplflow_bimplMaze
  have hl := loop_run (step := m_impl_flow_beside_bimplflow_bimplMaze_s1 c g.1 g.2.1 g.2.2) 4 (fun k => (bsd c g k, (k : Int))) (r := bsd c g 4) (by
    intro k hk
    have hlen := bsd_len c g k
    unfold m_impl_flow_beside_bimplflow_bimplMaze_s1
    simp only []
    have hne : m_impl_next g.1 g.2.1 (k : Int) = some (nb (gp g) k) := next_eq (p := gp g) hg hk
    rw [bif_t (by simp; omega), hne]
    simp only [bind_some']
    rw [implOpen_eq h]
    simp only [bind_some']
    have hs : bsd c g (k + 1) = if opn c (nb (gp g) k) = true then bsd c g k ++ [((nb (gp g) k).1, (nb (gp g) k).2, !g.2.2)] else bsd c g k := by
      unfold bsd
      rw [List.range_succ, List.filter_append, List.map_append]
      cases ho : opn c (nb (gp g) k) <;> simp [List.filter_cons, ho]
    cases ho : opn c (nb (gp g) k) with
    | true =>
      rw [bif_t (by rfl), apC_ok (by unfold lim; simp; omega)]
      simp only [bind_some']
      rw [hs, if_pos ho, wr_in (by omega)]; rfl
    | false =>
      rw [bif_f (by rfl)]
      simp only [bind_some']
      rw [hs, if_neg (by simp [ho]), wr_in (by omega)]; rfl) (by
    unfold m_impl_flow_beside_bimplflow_bimplMaze_s1
    simp only []
    rw [bif_f (by rfl)])
  have e0 : bsd c g 0 = [(g.1, g.2.1, !g.2.2)] := rfl
  rw [e0, show ((0 : Nat) : Int) = 0 from rfl] at hl
  rw [hl]; rfl
/-- The room of the first program, by the set of used steps. -/
def Used := List ((Int × Int × Bool × Int × Int × Bool) × Bool)
def ed (a b : Gt) : Int × Int × Bool × Int × Int × Bool := (a.1, a.2.1, a.2.2, b.1, b.2.1, b.2.2)
def usd (U : List ((Int × Int × Bool × Int × Int × Bool) × Bool)) (a b : Gt) : Bool := (mget U (ed a b)).getD false
def roomI (U : List ((Int × Int × Bool × Int × Int × Bool) × Bool)) (fr to : Pt) (a b : Gt) : Bool :=
  if usd U b a then true else if usd U a b then (a.2.2 || decide (gp a = fr) || decide (gp a = to)) else (a.2.2 != b.2.2 && (decide (gp a = gp b) == b.2.2))
theorem okI_sm {n : Int} (h : -20 ≤ n ∧ n ≤ 20) : okI n = true := by unfold okI; simp; omega
theorem room_eq (c : Mz) (fr to : Pt) (U : List ((Int × Int × Bool × Int × Int × Bool) × Bool)) {a b : Gt} (ha : smP (gp a)) (hb : smP (gp b)) :
    m_impl_flow_room_bimplflow_bimplMaze c fr.1 fr.2 to.1 to.2 U a.1 a.2.1 a.2.2 b.1 b.2.1 b.2.2 = some (roomI U fr to a b) := by
  unfold smP gp at ha hb
  simp only [] at ha hb
  have ok1 : okIIBIIB (ed b a) = true := by unfold okIIBIIB ed; simp [okI_sm, ha, hb]
  have ok2 : okIIBIIB (ed a b) = true := by unfold okIIBIIB ed; simp [okI_sm, ha, hb]
  have g1 : mgC (okIIBIIB (ed b a)) false U (ed b a) = some (usd U b a) := by unfold mgC; rw [ok1]; rfl
  have g2 : mgC (okIIBIIB (ed a b)) false U (ed a b) = some (usd U a b) := by unfold mgC; rw [ok2]; rfl
  unfold m_impl_flow_room_bimplflow_bimplMaze
  have g1' : mgC (okIIBIIB ((b.1, b.2.1, b.2.2, a.1, a.2.1, a.2.2))) false U ((b.1, b.2.1, b.2.2, a.1, a.2.1, a.2.2)) = some (usd U b a) := g1
  have g2' : mgC (okIIBIIB ((a.1, a.2.1, a.2.2, b.1, b.2.1, b.2.2))) false U ((a.1, a.2.1, a.2.2, b.1, b.2.1, b.2.2)) = some (usd U a b) := g2
  rw [g1', g2']
  simp only [bind_some']
  unfold roomI
  have e1 : (a.1 == fr.1 && a.2.1 == fr.2) = decide (gp a = fr) := eqb (gp a) fr
  have e2 : (a.1 == to.1 && a.2.1 == to.2) = decide (gp a = to) := eqb (gp a) to
  have e3 : (a.1 == b.1 && a.2.1 == b.2.1) = decide (gp a = gp b) := eqb (gp a) (gp b)
  rw [e1, e2, e3]
  cases usd U b a <;> cases usd U a b <;> cases a.2.2 <;> cases b.2.2 <;> cases decide (gp a = fr) <;> rfl
end Go.Proofs.Ytcknpoeannbpbaa

set_option linter.unusedSimpArgs false
set_option linter.unusedVariables false
set_option linter.unusedSectionVars false
namespace Go.Proofs.Ytcknpoeannbpbaa
open Go.RowKit

theorem nodup_le {α : Type} [DecidableEq α] : ∀ (l L : List α), l.Nodup → (∀ x ∈ l, x ∈ L) → l.length ≤ L.length
  | [], L, _, _ => Nat.zero_le _
  | a :: l, L, hn, hs => by
    obtain ⟨h1, h2⟩ := List.nodup_cons.1 hn
    have ha := hs a (by simp)
    have := nodup_le l (L.erase a) h2 fun x hx => (List.mem_erase_of_ne (by rintro rfl; exact h1 hx)).2 (hs x (by simp [hx]))
    rw [List.length_erase_of_mem ha] at this
    have := List.length_pos_of_mem ha
    simp only [List.length_cons]; omega
theorem BTree.snoc {ν : Type} [DecidableEq ν] {room : ν → ν → Prop} {s : ν} {T : List (ν × ν)} (h : BTree room s T) {a b : ν} (ha : a ∈ T.map (·.1)) (hb : b ∉ T.map (·.1)) (hr : room a b) : BTree room s (T ++ [(b, a)]) := by
  have hne : T ≠ [] := fun e => by rw [e] at ha; simp at ha
  refine ⟨?_, ?_, fun i hi h0 => ?_⟩
  · have := h.head
    cases T with
    | nil => exact absurd rfl hne
    | cons x l => exact this
  · rw [List.map_append, List.nodup_append]
    exact ⟨h.nd, by simp, fun x hx y hy => by simp only [List.map_cons, List.map_nil, List.mem_singleton] at hy; subst hy; exact fun e => hb (e ▸ hx)⟩
  · by_cases c : i < T.length
    · obtain ⟨j, hj, hjl, e1, e2⟩ := h.par i c h0
      have g1 : (T ++ [(b, a)])[i] = T[i] := List.getElem_append_left c
      have g2 : (T ++ [(b, a)])[j]'(by simp; omega) = T[j] := List.getElem_append_left hjl
      exact ⟨j, hj, by simp; omega, by rw [g1, g2]; exact e1, by rw [g1, g2]; exact e2⟩
    · have hi' : i = T.length := by simp at hi; omega
      subst hi'
      obtain ⟨x, hx, hxa⟩ := List.mem_map.1 ha
      obtain ⟨j, hj, rfl⟩ := List.mem_iff_getElem.1 hx
      have g1 : (T ++ [(b, a)])[T.length] = (b, a) := by simp
      have g2 : (T ++ [(b, a)])[j]'(by simp; omega) = T[j] := List.getElem_append_left hj
      exact ⟨j, hj, by simp; omega, by rw [g1, g2]; exact hxa.symm, by rw [g1, g2, hxa]; exact hr⟩
theorem mget_in {κ V : Type} [DecidableEq κ] (m : List (κ × V)) (k : κ) : (mget m k).isSome = decide (k ∈ m.map (·.1)) := by
  unfold mget
  rw [Bool.eq_iff_iff]
  simp only [Option.isSome_map, List.find?_isSome, decide_eq_true_eq, List.mem_map]
theorem mup_new {κ V : Type} [DecidableEq κ] (m : List (κ × V)) (k : κ) (x : V) (h : k ∉ m.map (·.1)) : mup m k x = m ++ [(k, x)] := by
  unfold mup
  rw [mget_in, if_neg (by simpa using h)]
def allG (c : Mz) : List Gt := (List.range (2 * (mzW c * c.length))).map fun i => (((i / 2 % mzW c : Nat) : Int), ((i / 2 / mzW c : Nat) : Int), decide (i % 2 = 1))
theorem allG_len (c : Mz) : (allG c).length = 2 * (mzW c * c.length) := by simp [allG]
theorem mem_allG {c : Mz} (h : mzOk c = true) {g : Gt} (hg : hasC c (gp g) = true) : g ∈ allG c := by
  obtain ⟨h1, h2, h3, h4, _⟩ := mzOk_t h
  unfold hasC gp at hg
  simp only [Bool.and_eq_true, decide_eq_true_eq] at hg
  obtain ⟨⟨a1, a2⟩, a3, a4⟩ := hg
  obtain ⟨x, y, b⟩ := g
  have a1 : 0 ≤ y := a1
  have a2 : y < c.length := a2
  have a3 : 0 ≤ x := a3
  have a4 : x < mzW c := a4
  obtain ⟨X, rfl⟩ := Int.eq_ofNat_of_zero_le a3
  obtain ⟨Y, rfl⟩ := Int.eq_ofNat_of_zero_le a1
  have hX : X < mzW c := by omega
  have hY : Y < c.length := by omega
  have e1 : (Y * mzW c + X) % mzW c = X := by rw [Nat.add_comm, Nat.add_mul_mod_self_right]; exact Nat.mod_eq_of_lt hX
  have e2 : (Y * mzW c + X) / mzW c = Y := by rw [Nat.add_comm, Nat.add_mul_div_right _ _ (by omega), Nat.div_eq_of_lt hX]; omega
  have hlt : Y * mzW c + X < mzW c * c.length := by
    have h5 : (Y + 1) * mzW c ≤ c.length * mzW c := Nat.mul_le_mul_right _ (by omega)
    rw [Nat.add_mul, Nat.one_mul, Nat.mul_comm c.length] at h5
    omega
  refine List.mem_map.2 ⟨2 * (Y * mzW c + X) + (if b then 1 else 0), List.mem_range.2 (by cases b <;> simp <;> omega), ?_⟩
  have e3 : (2 * (Y * mzW c + X) + (if b then 1 else 0)) / 2 = Y * mzW c + X := by cases b <;> simp <;> omega
  have e4 : decide ((2 * (Y * mzW c + X) + (if b then 1 else 0)) % 2 = 1) = b := by cases b <;> simp <;> omega
  rw [e3, e1, e2, e4]
theorem small_len {c : Mz} (h : mzOk c = true) : 2 * (mzW c * c.length) ≤ 288 := by
  obtain ⟨h1, h2, h3, h4, _⟩ := mzOk_t h
  have := Nat.mul_le_mul h4 h2
  omega
theorem opn_smP {c : Mz} (h : mzOk c = true) {p : Pt} (hp : opn c p = true) : smP p := by
  have := opn_sm h hp
  unfold smP; omega
theorem opn_has {c : Mz} {p : Pt} (hp : opn c p = true) : hasC c p = true := by
  unfold opn at hp
  simp only [Bool.and_eq_true] at hp
  exact hp.1
theorem bsd_opn {c : Mz} {g b : Gt} (hg : opn c (gp g) = true) (hb : b ∈ bsd c g 4) : opn c (gp b) = true := by
  unfold bsd at hb
  rcases List.mem_cons.1 hb with rfl | hb
  · exact hg
  · obtain ⟨i, hi, rfl⟩ := List.mem_map.1 hb
    exact (List.mem_filter.1 hi).2
section
variable {c : Mz} (h : mzOk c = true) {fr to : Pt} (U : List ((Int × Int × Bool × Int × Int × Bool) × Bool))
def rmI (c : Mz) (U : List ((Int × Int × Bool × Int × Int × Bool) × Bool)) (fr to : Pt) (a b : Gt) : Prop := b ∈ bsd c a 4 ∧ roomI U fr to a b = true
def srcG (fr : Pt) : Gt := (fr.1, fr.2, true)
structure Srch (c : Mz) (U : List ((Int × Int × Bool × Int × Int × Bool) × Bool)) (fr to : Pt) (T : List (Gt × Gt)) : Prop where
  tree : BTree (rmI c U fr to) (srcG fr) T
  opn : ∀ g ∈ T.map (·.1), opn c (gp g) = true
include h in
theorem Srch.len {T : List (Gt × Gt)} (hS : Srch c U fr to T) : T.length ≤ 2 * (mzW c * c.length) := by
  rw [← allG_len, ← List.length_map (·.1)]
  refine nodup_le _ _ hS.tree.nd fun g hg => mem_allG h ?_
  exact opn_has (hS.opn g hg)
include h in
/-- One gate's neighbours. -/
theorem inner_eq {T0 : List (Gt × Gt)} {g : Gt} {todo : List Gt} (hS0 : Srch c U fr to T0) (hg : g ∈ T0.map (·.1)) (htd : todo.length ≤ 1000) :
    ∃ ext : List (Gt × Gt), loopM (m_impl_flow_search_bimplflow_bimplMaze_s4 c fr.1 fr.2 to.1 to.2 U (bsd c g 4)) (g :: todo, 0, T0) = some (g :: todo ++ ext.map (·.1), T0 ++ ext) ∧ Srch c U fr to (T0 ++ ext) ∧ ∀ b ∈ bsd c g 4, roomI U fr to g b = true → b ∈ (T0 ++ ext).map (·.1) := by
  have hog := hS0.opn g hg
  have h288 := small_len h
  obtain ⟨r, h1, ext, h2, h3, h4⟩ := loopM_count (m_impl_flow_search_bimplflow_bimplMaze_s4 c fr.1 fr.2 to.1 to.2 U (bsd c g 4)) (bsd c g 4).length
    (fun j st => ∃ ext : List (Gt × Gt), st = (g :: todo ++ ext.map (·.1), (j : Int), T0 ++ ext) ∧ Srch c U fr to (T0 ++ ext) ∧ ∀ b ∈ (bsd c g 4).take j, roomI U fr to g b = true → b ∈ (T0 ++ ext).map (·.1))
    (fun r => ∃ ext : List (Gt × Gt), r = (g :: todo ++ ext.map (·.1), T0 ++ ext) ∧ Srch c U fr to (T0 ++ ext) ∧ ∀ b ∈ bsd c g 4, roomI U fr to g b = true → b ∈ (T0 ++ ext).map (·.1))
    (s0 := (g :: todo, 0, T0)) ⟨[], by simp, by simpa using hS0, by simp⟩ (by
      rintro j _ hj ⟨ext, rfl, hS, hall⟩
      left
      have hlen := hS.len (h := h)
      rw [List.length_append] at hlen
      have hbm : (bsd c g 4)[j] ∈ bsd c g 4 := List.getElem_mem hj
      have hob := bsd_opn hog hbm
      unfold m_impl_flow_search_bimplflow_bimplMaze_s4
      simp only []
      rw [bif_t (by simpa using hj), geti_lt hj]
      simp only [bind_some']
      obtain ⟨b, hb⟩ : ∃ b, b = (bsd c g 4)[j] := ⟨_, rfl⟩
      rw [← hb] at hbm hob ⊢
      have sb := opn_smP h hob
      have hok : okIIB ((b.1, b.2.1, b.2.2)) = true := by unfold smP gp at sb; simp only [] at sb; unfold okIIB; simp [okI_sm, sb]
      have hmp : mpC (okIIB ((b.1, b.2.1, b.2.2))) = some () := by unfold mpC; rw [hok]; rfl
      have hbe : ((b.1, b.2.1, b.2.2) : Gt) = b := rfl
      rw [hmp]
      simp only [bind_some', hbe]
      rw [mget_in]
      have htake : ∀ x ∈ (bsd c g 4).take (j + 1), x ∈ (bsd c g 4).take j ∨ x = b := fun x hx => by
        rw [List.take_succ_eq_append_getElem hj, List.mem_append, List.mem_singleton, ← hb] at hx
        exact hx
      have hwr : wr ((j : Int) + 1) = ((j + 1 : Nat) : Int) := by
        have := bsd_len c g 4
        rw [wr_in (by omega)]; rfl
      by_cases cm : b ∈ (T0 ++ ext).map (·.1)
      · rw [bif_f (by simp only [cm, decide_true, Bool.not_true])]
        simp only [bind_some', hwr]
        exact ⟨_, rfl, ext, rfl, hS, fun x hx hr => by
          rcases htake x hx with hx | rfl
          · exact hall x hx hr
          · exact cm⟩
      · rw [bif_t (by simp only [cm, decide_false, Bool.not_false])]
        have hg0 : geti (g :: todo ++ ext.map (·.1)) 0 = some g := rfl
        rw [hg0]
        simp only [bind_some']
        have hre := room_eq c fr to U (opn_smP h hog) sb
        rw [hre]
        simp only [bind_some']
        cases hr : roomI U fr to g b with
        | false =>
          rw [bif_f (by rfl)]
          simp only [bind_some', hwr]
          exact ⟨_, rfl, ext, rfl, hS, fun x hx hr' => by
            rcases htake x hx with hx | rfl
            · exact hall x hx hr'
            · rw [hr] at hr'; exact absurd hr' (by simp)⟩
        | true =>
          rw [bif_t (by rfl), apC_ok (by unfold lim; simp; omega)]
          simp only [bind_some', hwr]
          have hge : ((g.1, g.2.1, g.2.2) : Gt) = g := rfl
          rw [hge, mup_new _ _ _ cm]
          have hS2 : Srch c U fr to (T0 ++ (ext ++ [(b, g)])) := by
            rw [← List.append_assoc]
            refine ⟨hS.tree.snoc (by rw [List.map_append]; exact List.mem_append.2 (Or.inl hg)) cm ⟨hbm, hr⟩, fun x hx => ?_⟩
            rw [List.map_append, List.mem_append] at hx
            rcases hx with hx | hx
            · exact hS.opn x hx
            · simp only [List.map_cons, List.map_nil, List.mem_singleton] at hx; subst hx; exact hob
          refine ⟨_, rfl, ext ++ [(b, g)], by simp [List.append_assoc], hS2, fun x hx hr' => ?_⟩
          rw [← List.append_assoc, List.map_append, List.mem_append]
          rcases htake x hx with hx | rfl
          · exact Or.inl (hall x hx hr')
          · exact Or.inr (by simp)) (by
      rintro _ ⟨ext, rfl, hS, hall⟩
      unfold m_impl_flow_search_bimplflow_bimplMaze_s4
      simp only []
      rw [bif_f (by simp)]
      rw [List.take_length] at hall
      exact ⟨_, rfl, ext, rfl, hS, hall⟩)
  subst h2
  exact ⟨ext, h1, h3, h4⟩
include h in
/-- The whole search. -/
theorem search_eq (hfr : opn c fr = true) : ∃ T : List (Gt × Gt), m_impl_flow_search_bimplflow_bimplMaze c fr.1 fr.2 to.1 to.2 U = some T ∧ Srch c U fr to T ∧ ∀ a ∈ T.map (·.1), ∀ b ∈ bsd c a 4, roomI U fr to a b = true → b ∈ T.map (·.1) := by
  have h288 := small_len h
  have sf := opn_smP h hfr
  have hok : okIIB ((fr.1, fr.2, true)) = true := by unfold smP at sf; unfold okIIB; simp [okI_sm, sf]
  have hS0 : Srch c U fr to [(srcG fr, srcG fr)] := ⟨⟨rfl, by simp, fun i hi h0 => by simp at hi; omega⟩, fun g hg => by simp only [List.map_cons, List.map_nil, List.mem_singleton] at hg; subst hg; exact hfr⟩
  unfold m_impl_flow_search_bimplflow_bimplMaze
  have hmp : mpC (okIIB ((fr.1, fr.2, true))) = some () := by unfold mpC; rw [hok]; rfl
  rw [hmp]
  simp only [bind_some']
  have e0 : mup ([] : List ((Int × Int × Bool) × (Int × Int × Bool))) ((fr.1, fr.2, true)) ((fr.1, fr.2, true)) = [(srcG fr, srcG fr)] := rfl
  rw [e0]
  obtain ⟨T, h1, h2, h3⟩ := loopM_count (m_impl_flow_search_bimplflow_bimplMaze_s3 c fr.1 fr.2 to.1 to.2 U) (2 * (mzW c * c.length))
    (fun k st => ∃ done todo : List Gt, done.length = k ∧ st.1 = todo ∧ (st.2.map (·.1)) = done ++ todo ∧ Srch c U fr to st.2 ∧ ∀ a ∈ done, ∀ b ∈ bsd c a 4, roomI U fr to a b = true → b ∈ st.2.map (·.1))
    (fun T => Srch c U fr to T ∧ ∀ a ∈ T.map (·.1), ∀ b ∈ bsd c a 4, roomI U fr to a b = true → b ∈ T.map (·.1))
    (s0 := ([(fr.1, fr.2, true)], [(srcG fr, srcG fr)])) ⟨[], [srcG fr], rfl, rfl, rfl, hS0, by simp⟩ (by
      rintro k ⟨td, T⟩ hk ⟨done, todo, rfl, e1, e2, hS, hcl⟩
      simp only at e1 e2 hS hcl
      subst e1
      have hlen := hS.len (h := h)
      have hlen2 : T.length = done.length + td.length := by rw [← List.length_map (·.1), e2, List.length_append]
      unfold m_impl_flow_search_bimplflow_bimplMaze_s3
      simp only []
      cases td with
      | nil =>
        right
        rw [bif_f (by simp)]
        refine ⟨_, rfl, hS, fun a ha => hcl a ?_⟩
        rw [e2, List.append_nil] at ha; exact ha
      | cons g td =>
        left
        rw [bif_t (by simp)]
        have hg0 : geti (g :: td) 0 = some g := rfl
        rw [hg0]
        simp only [bind_some']
        have hgm : g ∈ T.map (·.1) := by rw [e2]; simp
        rw [beside_eq h (opn_smP h (hS.opn g hgm))]
        simp only [bind_some']
        obtain ⟨ext, x1, x2, x3⟩ := inner_eq h U hS hgm (todo := td) (by simp only [List.length_cons] at hlen2; omega)
        rw [x1]
        simp only [bind_some']
        obtain ⟨sv, hsl⟩ : ∃ v, slci (g :: td ++ ext.map (·.1)) 1 (((g :: td ++ ext.map (·.1)).length : Nat) : Int) = some v := by
          unfold slci
          rw [if_pos (by simp; omega)]
          exact ⟨_, rfl⟩
        rw [hsl]
        simp only [bind_some']
        refine ⟨_, rfl, done ++ [g], td ++ ext.map (·.1), by simp, by simp, ?_, x2, fun a ha b hb hr => ?_⟩
        · simp only [List.map_append, e2]; simp [List.append_assoc]
        · rcases List.mem_append.1 ha with ha | ha
          · simp only [List.map_append, List.mem_append]; exact Or.inl (hcl a ha b hb hr)
          · simp only [List.mem_singleton] at ha; subst ha; exact x3 b hb hr) (by
      rintro ⟨td, T⟩ ⟨done, todo, e0, e1, e2, hS, hcl⟩
      simp only at e1 e2 hS hcl
      subst e1
      have hlen := hS.len (h := h)
      have hlen2 : T.length = done.length + td.length := by rw [← List.length_map (·.1), e2, List.length_append]
      have : td = [] := List.length_eq_zero_iff.1 (by omega)
      subst this
      unfold m_impl_flow_search_bimplflow_bimplMaze_s3
      simp only []
      rw [bif_f (by simp)]
      refine ⟨_, rfl, hS, fun a ha => hcl a ?_⟩
      rw [e2, List.append_nil] at ha; exact ha)
  rw [h1]
  exact ⟨T, rfl, h2, h3⟩
end
end Go.Proofs.Ytcknpoeannbpbaa

set_option linter.unusedSimpArgs false
set_option linter.unusedVariables false
set_option linter.unusedSectionVars false
namespace Go.Proofs.Ytcknpoeannbpbaa
open Go.RowKit

def adjB (p q : Pt) : Bool := (List.range 4).any fun k => decide (q = nb p k)
theorem adjB_t {p q : Pt} : adjB p q = true ↔ ∃ k, k < 4 ∧ q = nb p k := by
  unfold adjB
  simp only [List.any_eq_true, List.mem_range, decide_eq_true_eq]
theorem nb_ne (p : Pt) (k : Nat) : nb p k ≠ p := fun e => by
  have e1 := congrArg Prod.fst e
  have e2 := congrArg Prod.snd e
  unfold nb at e1 e2
  by_cases c0 : k = 0
  · simp only [if_pos c0] at e2; omega
  · by_cases c1 : k = 1
    · simp only [if_neg c0, if_pos c1] at e1; omega
    · by_cases c2 : k = 2
      · simp only [if_neg c0, if_neg c1, if_pos c2] at e1; omega
      · simp only [if_neg c0, if_neg c1, if_neg c2] at e2; omega
theorem adjB_symm {p q : Pt} (h : adjB p q = true) : adjB q p = true := by
  obtain ⟨k, hk, rfl⟩ := adjB_t.1 h
  obtain ⟨x, y⟩ := p
  refine adjB_t.2 ⟨3 - k, by omega, ?_⟩
  match k, hk with
  | 0, _ => simp [nb]
  | 1, _ => simp [nb]
  | 2, _ => simp [nb]
  | 3, _ => simp [nb]
def cells (c : Mz) : Int := (mzW c * c.length : Nat)
/-- How much may lead from one gate to another. -/
def capM (c : Mz) (fr to : Pt) (a b : Gt) : Int :=
  if a.2.2 = false ∧ b.2.2 = true ∧ gp a = gp b then (if opn c (gp a) = true ∧ gp a ≠ fr ∧ gp a ≠ to then 1 else 0)
  else if a.2.2 = true ∧ b.2.2 = false ∧ adjB (gp a) (gp b) = true ∧ opn c (gp a) = true ∧ opn c (gp b) = true then cells c else 0
/-- What the set of used steps says of the flow. -/
def flN (U : List ((Int × Int × Bool × Int × Int × Bool) × Bool)) (a b : Gt) : Int := (if usd U a b then 1 else 0) - (if usd U b a then 1 else 0)
structure UOk (c : Mz) (fr to : Pt) (U : List ((Int × Int × Bool × Int × Int × Bool) × Bool)) : Prop where
  nd : (U.map (·.1)).Nodup
  fl : Flow (allG c) (capM c fr to) (srcG fr) (to.1, to.2, false) (flN U)
  one : ∀ a b, usd U a b = true → usd U b a = false
  sup : ∀ a b, usd U a b = true → 0 < capM c fr to a b
theorem mem_bsd {c : Mz} {a b : Gt} : b ∈ bsd c a 4 ↔ b.2.2 = !a.2.2 ∧ (gp b = gp a ∨ adjB (gp a) (gp b) = true ∧ opn c (gp b) = true) := by
  obtain ⟨x, y, o⟩ := b
  unfold bsd
  rw [List.mem_cons, List.mem_map]
  constructor
  · rintro (h | ⟨k, hk, h⟩)
    · obtain ⟨rfl, h2⟩ := Prod.mk.inj h
      obtain ⟨rfl, rfl⟩ := Prod.mk.inj h2
      exact ⟨rfl, Or.inl rfl⟩
    · obtain ⟨rfl, h2⟩ := Prod.mk.inj h
      obtain ⟨rfl, rfl⟩ := Prod.mk.inj h2
      obtain ⟨h3, h4⟩ := List.mem_filter.1 hk
      exact ⟨rfl, Or.inr ⟨adjB_t.2 ⟨k, List.mem_range.1 h3, rfl⟩, h4⟩⟩
  · rintro ⟨h1, h2 | ⟨h2, h3⟩⟩
    · left
      have e1 : x = a.1 := congrArg Prod.fst h2
      have e2 : y = a.2.1 := congrArg Prod.snd h2
      have e3 : o = !a.2.2 := h1
      rw [e1, e2, e3]
    · right
      obtain ⟨k, hk, e⟩ := adjB_t.1 h2
      have e1 : x = (nb (gp a) k).1 := congrArg Prod.fst e
      have e2 : y = (nb (gp a) k).2 := congrArg Prod.snd e
      have e3 : o = !a.2.2 := h1
      exact ⟨k, List.mem_filter.2 ⟨List.mem_range.2 hk, by rw [← e]; exact h3⟩, by rw [e1, e2, e3]⟩
/-- The two ends' own cells, from the inside to the outside. -/
def ownE (fr to : Pt) (a b : Gt) : Prop := a.2.2 = false ∧ b.2.2 = true ∧ gp a = gp b ∧ (gp a = fr ∨ gp a = to)
section
variable {c : Mz} (h : mzOk c = true) {fr to : Pt} {U : List ((Int × Int × Bool × Int × Int × Bool) × Bool)}
theorem flN_1 {a b : Gt} (hU : UOk c fr to U) (h1 : usd U a b = true) : flN U a b = 1 := by
  unfold flN; rw [h1, hU.one a b h1]; rfl
theorem flN_n {a b : Gt} (hU : UOk c fr to U) (h1 : usd U b a = true) : flN U a b = -1 := by
  unfold flN; rw [h1, hU.one b a h1]; rfl
theorem flN_0 {a b : Gt} (h1 : usd U a b = false) (h2 : usd U b a = false) : flN U a b = 0 := by
  unfold flN; rw [h1, h2]; rfl
theorem cap_nn (a b : Gt) : 0 ≤ capM c fr to a b := by
  unfold capM cells
  split
  · split <;> omega
  · split <;> omega
/-- Where there may be something: inside a cell, or between neighbours. -/
theorem cap_pos {a b : Gt} (h1 : 0 < capM c fr to a b) : (a.2.2 = false ∧ b.2.2 = true ∧ gp a = gp b ∧ opn c (gp a) = true ∧ gp a ≠ fr ∧ gp a ≠ to ∧ capM c fr to a b = 1) ∨ (a.2.2 = true ∧ b.2.2 = false ∧ adjB (gp a) (gp b) = true ∧ opn c (gp a) = true ∧ opn c (gp b) = true ∧ capM c fr to a b = cells c) := by
  unfold capM at h1 ⊢
  by_cases c1 : a.2.2 = false ∧ b.2.2 = true ∧ gp a = gp b
  · rw [if_pos c1] at h1 ⊢
    by_cases c2 : opn c (gp a) = true ∧ gp a ≠ fr ∧ gp a ≠ to
    · rw [if_pos c2]; exact Or.inl ⟨c1.1, c1.2.1, c1.2.2, c2.1, c2.2.1, c2.2.2, rfl⟩
    · rw [if_neg c2] at h1; omega
  · rw [if_neg c1] at h1 ⊢
    by_cases c2 : a.2.2 = true ∧ b.2.2 = false ∧ adjB (gp a) (gp b) = true ∧ opn c (gp a) = true ∧ opn c (gp b) = true
    · rw [if_pos c2]; exact Or.inr ⟨c2.1, c2.2.1, c2.2.2.1, c2.2.2.2.1, c2.2.2.2.2, rfl⟩
    · rw [if_neg c2] at h1; omega
theorem room_iff (hU : UOk c fr to U) (hc : 1 < cells c) {a b : Gt} (ha : opn c (gp a) = true) : rmI c U fr to a b ↔ (flN U a b < capM c fr to a b ∨ ownE fr to a b) := by
  unfold rmI roomI
  rw [mem_bsd]
  cases u1 : usd U b a with
  | true =>
    rw [if_pos rfl, flN_n hU u1]
    have hp := cap_pos (hU.sup b a u1)
    have hnn := cap_nn (c := c) (fr := fr) (to := to) a b
    constructor
    · intro _; left; omega
    · intro _
      rcases hp with ⟨p1, p2, p3, p4, _⟩ | ⟨p1, p2, p3, p4, p5, _⟩
      · exact ⟨⟨by rw [p1, p2]; rfl, Or.inl p3⟩, rfl⟩
      · exact ⟨⟨by rw [p1, p2]; rfl, Or.inr ⟨adjB_symm p3, p4⟩⟩, rfl⟩
  | false =>
    rw [if_neg (by simp)]
    cases u2 : usd U a b with
    | true =>
      rw [if_pos rfl, flN_1 hU u2]
      rcases cap_pos (hU.sup a b u2) with ⟨p1, p2, p3, p4, p5, p6, p7⟩ | ⟨p1, p2, p3, p4, p5, p7⟩
      · rw [p7]
        constructor
        · rintro ⟨_, hr⟩
          rw [p1] at hr
          simp [p5, p6] at hr
        · rintro (hr | ⟨_, _, _, hr⟩)
          · omega
          · rcases hr with hr | hr
            · exact absurd hr p5
            · exact absurd hr p6
      · rw [p7]
        constructor
        · intro _; exact Or.inl hc
        · intro _; exact ⟨⟨by rw [p1, p2]; rfl, Or.inr ⟨p3, p5⟩⟩, by rw [p1]; rfl⟩
    | false =>
      rw [if_neg (by simp), flN_0 u2 u1]
      constructor
      · rintro ⟨⟨b1, b2⟩, hr⟩
        simp only [Bool.and_eq_true, bne_iff_ne, ne_eq, beq_iff_eq] at hr
        cases ao : a.2.2 with
        | true =>
          rw [ao] at b1
          have bo : b.2.2 = false := b1
          rw [bo] at hr
          have hne : gp a ≠ gp b := by
            have := hr.2
            simpa using this
          left
          rcases b2 with b2 | ⟨b2, b3⟩
          · exact absurd b2.symm hne
          · unfold capM
            rw [if_neg (by rw [ao]; simp), if_pos ⟨ao, bo, b2, ha, b3⟩]
            omega
        | false =>
          rw [ao] at b1
          have bo : b.2.2 = true := b1
          rw [bo] at hr
          have heq : gp a = gp b := by
            have := hr.2
            simpa using this
          by_cases e1 : gp a = fr
          · exact Or.inr ⟨ao, bo, heq, Or.inl e1⟩
          · by_cases e2 : gp a = to
            · exact Or.inr ⟨ao, bo, heq, Or.inr e2⟩
            · left
              unfold capM
              rw [if_pos ⟨ao, bo, heq⟩, if_pos ⟨ha, e1, e2⟩]; omega
      · rintro (hr | ⟨q1, q2, q3, q4⟩)
        · rcases cap_pos hr with ⟨p1, p2, p3, p4, _⟩ | ⟨p1, p2, p3, p4, p5, _⟩
          · exact ⟨⟨by rw [p1, p2]; rfl, Or.inl p3.symm⟩, by rw [p1, p2]; simp [p3]⟩
          · have hne : gp a ≠ gp b := fun e => by
              obtain ⟨k, _, hk⟩ := adjB_t.1 p3
              exact nb_ne (gp a) k (by rw [← hk]; exact e.symm)
            exact ⟨⟨by rw [p1, p2]; rfl, Or.inr ⟨p3, p5⟩⟩, by rw [p1, p2]; simp [hne]⟩
        · exact ⟨⟨by rw [q1, q2]; rfl, Or.inl q3.symm⟩, by rw [q1, q2]; simp [q3]⟩
end
end Go.Proofs.Ytcknpoeannbpbaa

set_option linter.unusedSimpArgs false
set_option linter.unusedVariables false
set_option linter.unusedSectionVars false
namespace Go.Proofs.Ytcknpoeannbpbaa
open Go.RowKit

section
variable {ν : Type} [DecidableEq ν]
/-- A sum that is as great as what bounds it term by term. -/
theorem sum_forced {f : ν → Int} {Vs : List ν} {p v : ν} (hn : Vs.Nodup) (hp : p ∈ Vs) (hv : v ∈ Vs) (hpv : p ≠ v) (h0 : sumL f Vs = 0) (h1 : f p ≤ -1) (h2 : f v ≤ 1) (h3 : ∀ x ∈ Vs, x ≠ p → x ≠ v → f x ≤ 0) : f p = -1 ∧ f v = 1 ∧ ∀ x ∈ Vs, x ≠ p → x ≠ v → f x = 0 := by
  have hg : sumL (fun x => (if x = p then (-1 : Int) else 0) + (if x = v then 1 else 0)) Vs = 0 := by
    rw [sumL_add, sumL_one hn hp, sumL_one hn hv]; rfl
  have hle : ∀ x ∈ Vs, f x ≤ (if x = p then (-1 : Int) else 0) + (if x = v then 1 else 0) := fun x hx => by
    by_cases e1 : x = p
    · subst e1; rw [if_pos rfl, if_neg hpv]; omega
    · by_cases e2 : x = v
      · subst e2; rw [if_neg e1, if_pos rfl]; omega
      · rw [if_neg e1, if_neg e2]; have := h3 x hx e1 e2; omega
  have he := sumL_eq Vs hle (by rw [h0, hg])
  refine ⟨?_, ?_, fun x hx e1 e2 => ?_⟩
  · have := he p hp; rw [if_pos rfl, if_neg hpv] at this; omega
  · have := he v hv; rw [if_neg (Ne.symm hpv), if_pos rfl] at this; omega
  · have := he x hx; rw [if_neg e1, if_neg e2] at this; omega
theorem sum_neg {f : ν → Int} {Vs : List ν} {p : ν} (hn : Vs.Nodup) (hp : p ∈ Vs) (h0 : sumL f Vs = 0) (h1 : f p ≤ -1) (h3 : ∀ x ∈ Vs, f x ≤ 0) : False := by
  have hg : sumL (fun x => if x = p then (-1 : Int) else 0) Vs = -1 := sumL_one hn hp
  have := sumL_le (f := f) (g := fun x => if x = p then (-1 : Int) else 0) Vs fun x hx => by
    by_cases e1 : x = p
    · subst e1; rw [if_pos rfl]; omega
    · rw [if_neg e1]; exact h3 x hx
  omega
end
theorem allG_nodup {c : Mz} (h : mzOk c = true) : (allG c).Nodup := by
  obtain ⟨h1, h2, h3, h4, _⟩ := mzOk_t h
  unfold allG
  rw [List.nodup_iff_pairwise_ne, List.pairwise_map]
  refine (List.nodup_range (n := 2 * (mzW c * c.length))).imp (fun {i j} hij e => hij ?_)
  obtain ⟨e1, e2⟩ := Prod.mk.inj e
  obtain ⟨e2, e3⟩ := Prod.mk.inj e2
  have d1 : i / 2 % mzW c = j / 2 % mzW c := by omega
  have d2 : i / 2 / mzW c = j / 2 / mzW c := by omega
  have d3 : i / 2 = j / 2 := by
    have a1 := Nat.div_add_mod (i / 2) (mzW c)
    have a2 := Nat.div_add_mod (j / 2) (mzW c)
    rw [← a1, ← a2, d1, d2]
  have d4 : (i % 2 = 1) ↔ (j % 2 = 1) := by simpa using e3
  omega
section
variable {c : Mz} (h : mzOk c = true) {fr to : Pt} {U : List ((Int × Int × Bool × Int × Int × Bool) × Bool)} (hU : UOk c fr to U)
def snkG (to : Pt) : Gt := (to.1, to.2, false)
def oth (g : Gt) : Gt := (g.1, g.2.1, !g.2.2)
theorem gate_eq {a b : Gt} (h1 : gp a = gp b) (h2 : a.2.2 = b.2.2) : a = b := by
  have e1 : a.1 = b.1 := show (gp a).1 = (gp b).1 by rw [h1]
  have e2 : a.2.1 = b.2.1 := show (gp a).2 = (gp b).2 by rw [h1]
  exact Prod.ext e1 (Prod.ext e2 h2)
include h hU in
/-- Into an inner cell that is used: what goes through it, and nothing else. -/
theorem in_used {a b : Gt} (hab : usd U a b = true) (hao : a.2.2 = true) (hne : b ≠ snkG to) : gp b ≠ fr ∧ flN U b (oth b) = 1 ∧ ∀ x ∈ allG c, x ≠ a → x ≠ oth b → flN U b x = 0 := by
  rcases cap_pos (hU.sup a b hab) with ⟨p1, _⟩ | ⟨p1, p2, p3, p4, p5, _⟩
  · rw [hao] at p1; exact absurd p1 (by simp)
  have hb : b ∈ allG c := mem_allG h (opn_has p5)
  have ha : a ∈ allG c := mem_allG h (opn_has p4)
  have hs : b ≠ srcG fr := fun e => by rw [e] at p2; exact absurd p2 (by simp [srcG])
  have hk := hU.fl.keep b hb hs hne
  have hN := allG_nodup h
  have hba : flN U b a = -1 := flN_n hU hab
  have hab' : a ≠ oth b := fun e => by
    obtain ⟨k, _, hk⟩ := adjB_t.1 p3
    have : gp a = gp b := by rw [e]; rfl
    exact nb_ne (gp a) k (by rw [← hk]; exact this.symm)
  have hbto : gp b ≠ to := fun e => hne (gate_eq (by rw [e]; rfl) (by rw [p2]; rfl))
  have hcap : ∀ x, x ≠ oth b → capM c fr to b x ≤ 0 := fun x hx => by
    by_cases cc : 0 < capM c fr to b x
    · rcases cap_pos cc with ⟨q1, q2, q3, _⟩ | ⟨q1, _⟩
      · exact absurd (gate_eq (by rw [← q3]; rfl) (by rw [q2]; show true = !b.2.2; rw [p2]; rfl)) hx
      · rw [p2] at q1; exact absurd q1 (by simp)
    · omega
  have hfr : gp b ≠ fr := fun e => by
    refine sum_neg hN ha hk (by omega) (fun x hx => ?_)
    have h1 := hU.fl.le b x
    by_cases ex : x = oth b
    · by_cases cc : 0 < capM c fr to b x
      · rcases cap_pos cc with ⟨_, _, _, _, q5, _⟩ | ⟨q1, _⟩
        · exact absurd e q5
        · rw [p2] at q1; exact absurd q1 (by simp)
      · omega
    · have := hcap x ex; omega
  have ho : oth b ∈ allG c := mem_allG h (opn_has (p := gp (oth b)) (by show opn c (gp b) = true; exact p5))
  have hle1 : flN U b (oth b) ≤ 1 := by
    have h1 := hU.fl.le b (oth b)
    have : capM c fr to b (oth b) = 1 := by
      unfold capM
      rw [if_pos ⟨p2, by show (!b.2.2) = true; rw [p2]; rfl, rfl⟩, if_pos ⟨p5, hfr, hbto⟩]
    omega
  obtain ⟨_, g2, g3⟩ := sum_forced hN ha ho hab' hk (by omega) hle1 (fun x hx e1 e2 => by
    have h1 := hU.fl.le b x
    have := hcap x e2; omega)
  exact ⟨hfr, g2, g3⟩
include h hU in
/-- Out of an inner cell that is used. -/
theorem out_used {a b : Gt} (hab : usd U a b = true) (hao : a.2.2 = true) (hne : gp a ≠ fr) (hto : gp a ≠ to) : flN U a (oth a) = -1 ∧ ∀ x ∈ allG c, x ≠ b → x ≠ oth a → flN U a x = 0 := by
  rcases cap_pos (hU.sup a b hab) with ⟨p1, _⟩ | ⟨p1, p2, p3, p4, p5, _⟩
  · rw [hao] at p1; exact absurd p1 (by simp)
  have hb : b ∈ allG c := mem_allG h (opn_has p5)
  have ha : a ∈ allG c := mem_allG h (opn_has p4)
  have hk := hU.fl.keep a ha (fun e => hne (by rw [e]; rfl)) (fun e => by rw [e] at p1; exact absurd p1 (by simp))
  have hN := allG_nodup h
  have hba : flN U a b = 1 := flN_1 hU hab
  have hbo : oth a ≠ b := fun e => by
    obtain ⟨k, _, hk⟩ := adjB_t.1 p3
    have : gp b = gp a := by rw [← e]; rfl
    exact nb_ne (gp a) k (by rw [← hk]; exact this)
  have ho : oth a ∈ allG c := mem_allG h (opn_has (p := gp (oth a)) (by show opn c (gp a) = true; exact p4))
  have hk' : sumL (fun x => flN U x a) (allG c) = 0 := by
    have e : sumL (fun x => flN U x a) (allG c) = sumL (fun x => - flN U a x) (allG c) := sumL_congr _ fun x _ => hU.fl.anti x a
    rw [e, sumL_neg]
    have : sumL (flN U a) (allG c) = 0 := hk
    have e2 : sumL (fun x => flN U a x) (allG c) = sumL (flN U a) (allG c) := rfl
    omega
  have hcap : ∀ x, x ≠ oth a → capM c fr to x a ≤ 0 := fun x hx => by
    by_cases cc : 0 < capM c fr to x a
    · rcases cap_pos cc with ⟨q1, q2, q3, _⟩ | ⟨_, q2, _⟩
      · exact absurd (gate_eq (by rw [q3]; rfl) (by rw [q1]; show false = !a.2.2; rw [p1]; rfl)) hx
      · rw [p1] at q2; exact absurd q2 (by simp)
    · omega
  have hle1 : flN U (oth a) a ≤ 1 := by
    have h1 := hU.fl.le (oth a) a
    have : capM c fr to (oth a) a = 1 := by
      unfold capM
      rw [if_pos ⟨by show (!a.2.2) = false; rw [p1]; rfl, p1, rfl⟩, if_pos ⟨p4, hne, hto⟩]
    omega
  obtain ⟨_, g2, g3⟩ := sum_forced (f := fun x => flN U x a) hN hb ho (Ne.symm hbo) hk' (by show flN U b a ≤ -1; rw [hU.fl.anti]; omega) hle1 (fun x hx e1 e2 => by
    have h1 := hU.fl.le x a
    have := hcap x e2
    show flN U x a ≤ 0
    omega)
  refine ⟨by rw [hU.fl.anti]; have : flN U (oth a) a = 1 := g2; omega, fun x hx e1 e2 => by rw [hU.fl.anti]; have : flN U x a = 0 := g3 x hx e1 e2; omega⟩
include h hU in
/-- A step with room, of a simple way from the beginning to the end, is not used in its own direction. -/
theorem no_double (hc : 1 < cells c) (hft : adjB fr to = false) {pre suf : List Gt} {a b : Gt} (hn : (pre ++ a :: b :: suf).Nodup) (hops : ∀ x ∈ pre ++ a :: b :: suf, opn c (gp x) = true) (hch : Chain (rmI c U fr to) (pre ++ a :: b :: suf)) (hs : (pre ++ a :: b :: suf).head? = some (srcG fr)) (ht : lastD (srcG fr) (pre ++ a :: b :: suf) = snkG to) : usd U a b = false := by
  have chainR : ∀ (l : List Gt) (x y : Gt) (r : List Gt), Chain (rmI c U fr to) (l ++ x :: y :: r) → rmI c U fr to x y ∧ Chain (rmI c U fr to) (y :: r) := by
    intro l
    induction l with
    | nil => exact fun x y r h => h
    | cons z l ih =>
      intro x y r hh
      cases l with
      | nil => exact ih x y r hh.2
      | cons z2 l => exact ih x y r hh.2
  cases hab : usd U a b with
  | false => rfl
  | true =>
    exfalso
    obtain ⟨hr, hrest⟩ := chainR pre a b suf hch
    have oa := hops a (by simp)
    have ob := hops b (by simp)
    have hroom := (room_iff hU hc oa).1 hr
    rcases cap_pos (hU.sup a b hab) with ⟨p1, p2, p3, p4, p5, p6, p7⟩ | ⟨p1, p2, p3, p4, p5, p7⟩
    · rw [flN_1 hU hab, p7] at hroom
      rcases hroom with hr | ⟨_, _, _, hr | hr⟩
      · omega
      · exact p5 hr
      · exact p6 hr
    · have hnp := List.nodup_append.1 hn
      obtain ⟨hna, hnb⟩ := List.nodup_cons.1 hnp.2.1
      by_cases hbt : b = snkG to
      · have hgb : gp b = to := by rw [hbt]; rfl
        have hafr : gp a ≠ fr := fun e => by rw [e, hgb] at p3; rw [p3] at hft; exact absurd hft (by simp)
        have hato : gp a ≠ to := fun e => by
          obtain ⟨k, _, hk⟩ := adjB_t.1 p3
          exact nb_ne (gp a) k (by rw [← hk, e, hgb])
        have hpne : pre ≠ [] := fun e => by
          rw [e] at hs
          have : a = srcG fr := Option.some.inj hs
          exact hafr (by rw [this]; rfl)
        obtain ⟨pre', u, rfl⟩ : ∃ l x, pre = l ++ [x] := ⟨pre.dropLast, pre.getLast hpne, (List.dropLast_concat_getLast hpne).symm⟩
        have hch2 : Chain (rmI c U fr to) (pre' ++ u :: a :: (b :: suf)) := by
          have : pre' ++ [u] ++ a :: b :: suf = pre' ++ u :: a :: (b :: suf) := by simp
          rw [this] at hch; exact hch
        obtain ⟨hru, _⟩ := chainR pre' u a (b :: suf) hch2
        have ou := hops u (by simp)
        obtain ⟨o1, o2⟩ := out_used h hU hab p1 hafr hato
        have hua := (room_iff hU hc ou).1 hru
        have hu : u ∈ allG c := mem_allG h (opn_has ou)
        have hub : u ≠ b := fun e => hnp.2.2 u (by simp) b (by simp) e
        by_cases eu : u = oth a
        · subst eu
          have e1 : flN U (oth a) a = 1 := by rw [hU.fl.anti]; omega
          have e2 : capM c fr to (oth a) a = 1 := by
            unfold capM
            rw [if_pos ⟨by show (!a.2.2) = false; rw [p1]; rfl, p1, rfl⟩, if_pos ⟨p4, hafr, hato⟩]
          rcases hua with hua | ⟨_, _, _, hua | hua⟩
          · omega
          · exact hafr hua
          · exact hato hua
        · have e1 : flN U u a = 0 := by rw [hU.fl.anti, o2 u hu hub eu]; rfl
          rcases hua with hua | ⟨q1, q2, q3, _⟩
          · rw [e1] at hua
            rcases cap_pos hua with ⟨q1, q2, q3, _⟩ | ⟨_, q2, _⟩
            · exact eu (gate_eq (by rw [q3]; rfl) (by rw [q1]; show false = !a.2.2; rw [p1]; rfl))
            · rw [p1] at q2; exact absurd q2 (by simp)
          · exact eu (gate_eq (by rw [q3]; rfl) (by rw [q1]; show false = !a.2.2; rw [p1]; rfl))
      · obtain ⟨i1, i2, i3⟩ := in_used h hU hab p1 hbt
        have hbto : gp b ≠ to := fun e => hbt (gate_eq (by rw [e]; rfl) (by rw [p2]; rfl))
        cases suf with
        | nil =>
          have : lastD (srcG fr) (pre ++ [a] ++ [b]) = b := lastD_snoc _ _ _
          rw [List.append_assoc] at this
          exact hbt (this.symm.trans ht)
        | cons v suf =>
          have hrv := hrest.1
          have ov := hops v (by simp)
          have hv : v ∈ allG c := mem_allG h (opn_has ov)
          have hbv := (room_iff hU hc ob).1 hrv
          have hva : v ≠ a := fun e => hna (by rw [← e]; simp)
          by_cases ev : v = oth b
          · subst ev
            have e2 : capM c fr to b (oth b) = 1 := by
              unfold capM
              rw [if_pos ⟨p2, by show (!b.2.2) = true; rw [p2]; rfl, rfl⟩, if_pos ⟨p5, i1, hbto⟩]
            rcases hbv with hbv | ⟨_, _, _, hbv | hbv⟩
            · omega
            · exact i1 hbv
            · exact hbto hbv
          · have e1 := i3 v hv hva ev
            rcases hbv with hbv | ⟨q1, q2, q3, _⟩
            · rw [e1] at hbv
              rcases cap_pos hbv with ⟨q1, q2, q3, _⟩ | ⟨q1, _⟩
              · exact ev (gate_eq (by rw [← q3]; rfl) (by rw [q2]; show true = !b.2.2; rw [p2]; rfl))
              · rw [p2] at q1; exact absurd q1 (by simp)
            · exact ev (gate_eq (by rw [← q3]; rfl) (by rw [q2]; show true = !b.2.2; rw [p2]; rfl))
end
end Go.Proofs.Ytcknpoeannbpbaa

set_option linter.unusedSimpArgs false
set_option linter.unusedVariables false
set_option linter.unusedSectionVars false
namespace Go.Proofs.Ytcknpoeannbpbaa
open Go.RowKit

abbrev Us := List ((Int × Int × Bool × Int × Int × Bool) × Bool)
def updU (U : Us) (a b : Gt) : Us := if usd U b a = true then mdel U (ed b a) else mup U (ed a b) true
def pushU (U : Us) : List Gt → Us
  | [] => U
  | [_] => U
  | a :: b :: l => updU (pushU U (b :: l)) a b
theorem ed_inj {a b x y : Gt} : ed x y = ed a b ↔ x = a ∧ y = b := by
  obtain ⟨a1, a2, a3⟩ := a; obtain ⟨b1, b2, b3⟩ := b; obtain ⟨x1, x2, x3⟩ := x; obtain ⟨y1, y2, y3⟩ := y
  simp only [ed, Prod.mk.injEq]
  constructor
  · rintro ⟨h1, h2, h3, h4, h5, h6⟩; exact ⟨⟨h1, h2, h3⟩, h4, h5, h6⟩
  · rintro ⟨⟨h1, h2, h3⟩, h4, h5, h6⟩; exact ⟨h1, h2, h3, h4, h5, h6⟩
theorem usd_mdel (U : Us) (a b x y : Gt) : usd (mdel U (ed a b)) x y = if x = a ∧ y = b then false else usd U x y := by
  unfold usd
  rw [mget_mdel]
  by_cases c : x = a ∧ y = b
  · rw [if_pos (ed_inj.2 c), if_pos c]; rfl
  · rw [if_neg (fun e => c (ed_inj.1 e)), if_neg c]
theorem usd_mup {U : Us} (hn : (U.map (·.1)).Nodup) (a b x y : Gt) : usd (mup U (ed a b) true) x y = if x = a ∧ y = b then true else usd U x y := by
  unfold usd
  rw [mget_mup _ _ _ _ hn]
  by_cases c : x = a ∧ y = b
  · rw [if_pos (ed_inj.2 c), if_pos c]; rfl
  · rw [if_neg (fun e => c (ed_inj.1 e)), if_neg c]
def Fwd (U : Us) : List Gt → Prop
  | [] => True
  | [_] => True
  | a :: b :: l => usd U a b = false ∧ Fwd U (b :: l)
/-- What a way changes. -/
theorem pushU_is {U : Us} (hn : (U.map (·.1)).Nodup) (h1 : ∀ a b, usd U a b = true → usd U b a = false) : ∀ l : List Gt, l.Nodup → Fwd U l →
    ((pushU U l).map (·.1)).Nodup ∧ (∀ a b, usd (pushU U l) a b = true → usd (pushU U l) b a = false) ∧ (∀ x y, flN (pushU U l) x y = pushP (flN U) l x y) ∧ (∀ x y, (x ∉ l ∨ y ∉ l) → usd (pushU U l) x y = usd U x y) ∧
    ∀ x y, usd (pushU U l) x y = true → usd U x y = true ∨ ∃ p q, l = p ++ x :: y :: q ∧ usd U y x = false
  | [], _, _ => ⟨hn, h1, fun _ _ => rfl, fun _ _ _ => rfl, fun x y hx => Or.inl hx⟩
  | [a], _, _ => ⟨hn, h1, fun _ _ => rfl, fun _ _ _ => rfl, fun x y hx => Or.inl hx⟩
  | a :: b :: l, hl, hf => by
    obtain ⟨hl1, hl2⟩ := List.nodup_cons.1 hl
    obtain ⟨i1, i2, i3, i4, i5⟩ := pushU_is hn h1 (b :: l) hl2 hf.2
    have hab : a ≠ b := fun e => hl1 (by rw [e]; simp)
    have u1 : usd (pushU U (b :: l)) a b = usd U a b := i4 a b (Or.inl hl1)
    have u2 : usd (pushU U (b :: l)) b a = usd U b a := i4 b a (Or.inr hl1)
    have off : ∀ x y, (x ∉ a :: b :: l ∨ y ∉ a :: b :: l) → (x ∉ b :: l ∨ y ∉ b :: l) ∧ ¬ (x = a ∧ y = b) ∧ ¬ (x = b ∧ y = a) := by
      rintro x y (hx | hy)
      · exact ⟨Or.inl fun hm => hx (List.mem_cons_of_mem _ hm), fun e => hx (by rw [e.1]; simp), fun e => hx (by rw [e.1]; simp)⟩
      · exact ⟨Or.inr fun hm => hy (List.mem_cons_of_mem _ hm), fun e => hy (by rw [e.2]; simp), fun e => hy (by rw [e.2]; simp)⟩
    have hw : ∀ x y, (usd U x y = true ∨ ∃ p q, b :: l = p ++ x :: y :: q ∧ usd U y x = false) → usd U x y = true ∨ ∃ p q, a :: b :: l = p ++ x :: y :: q ∧ usd U y x = false := by
      rintro x y (hx | ⟨p, q, e, h2⟩)
      · exact Or.inl hx
      · exact Or.inr ⟨a :: p, q, by rw [e]; rfl, h2⟩
    generalize hV : pushU U (b :: l) = V at *
    have hpu : pushU U (a :: b :: l) = updU V a b := by show updU (pushU U (b :: l)) a b = _; rw [hV]
    rw [hpu]
    unfold updU
    cases hb : usd V b a with
    | true =>
      rw [if_pos rfl]
      have hva : usd V a b = false := i2 b a hb
      refine ⟨nodup_mdel i1 _, fun x y hx => ?_, fun x y => ?_, fun x y hxy => ?_, fun x y hx => ?_⟩
      · rw [usd_mdel] at hx ⊢
        by_cases c : x = b ∧ y = a
        · rw [if_pos c] at hx; exact absurd hx (by simp)
        · rw [if_neg c] at hx
          by_cases c2 : y = b ∧ x = a
          · rw [if_pos c2]
          · rw [if_neg c2]; exact i2 x y hx
      · show _ = bump (pushP (flN U) (b :: l)) a b x y
        unfold bump
        rw [← i3 x y]
        unfold flN
        rw [usd_mdel, usd_mdel]
        by_cases c1 : x = a ∧ y = b
        · obtain ⟨rfl, rfl⟩ := c1
          simp [hab, Ne.symm hab, hva, hb]
        · by_cases c2 : x = b ∧ y = a
          · obtain ⟨rfl, rfl⟩ := c2
            simp [hab, Ne.symm hab, hva, hb]
          · have c3 : ¬ (y = b ∧ x = a) := fun e => c1 ⟨e.2, e.1⟩
            simp only [if_neg c2, if_neg c3, if_neg c1]; omega
      · obtain ⟨o1, o2, o3⟩ := off x y hxy
        rw [usd_mdel, if_neg o3]; exact i4 x y o1
      · rw [usd_mdel] at hx
        by_cases c : x = b ∧ y = a
        · rw [if_pos c] at hx; exact absurd hx (by simp)
        · rw [if_neg c] at hx; exact hw x y (i5 x y hx)
    | false =>
      rw [if_neg (by simp)]
      have hva : usd V a b = false := by rw [u1]; exact hf.1
      refine ⟨nodup_mup i1 _ _, fun x y hx => ?_, fun x y => ?_, fun x y hxy => ?_, fun x y hx => ?_⟩
      · rw [usd_mup i1] at hx ⊢
        by_cases c : x = a ∧ y = b
        · obtain ⟨rfl, rfl⟩ := c
          rw [if_neg (fun e => hab e.2)]; exact hb
        · rw [if_neg c] at hx
          by_cases c2 : y = a ∧ x = b
          · obtain ⟨rfl, rfl⟩ := c2
            rw [hb] at hx; exact absurd hx (by simp)
          · rw [if_neg c2]; exact i2 x y hx
      · show _ = bump (pushP (flN U) (b :: l)) a b x y
        unfold bump
        rw [← i3 x y]
        unfold flN
        rw [usd_mup i1, usd_mup i1]
        by_cases c1 : x = a ∧ y = b
        · obtain ⟨rfl, rfl⟩ := c1
          simp [hab, Ne.symm hab, hva, hb]
        · by_cases c2 : x = b ∧ y = a
          · obtain ⟨rfl, rfl⟩ := c2
            simp [hab, Ne.symm hab, hva, hb]
          · have c3 : ¬ (y = a ∧ x = b) := fun e => c2 ⟨e.2, e.1⟩
            simp only [if_neg c2, if_neg c3, if_neg c1]; omega
      · obtain ⟨o1, o2, o3⟩ := off x y hxy
        rw [usd_mup i1, if_neg o2]; exact i4 x y o1
      · rw [usd_mup i1] at hx
        by_cases c : x = a ∧ y = b
        · obtain ⟨rfl, rfl⟩ := c
          exact Or.inr ⟨[], l, rfl, by rw [← u2]; exact hb⟩
        · rw [if_neg c] at hx; exact hw x y (i5 x y hx)
section
variable {c : Mz} (h : mzOk c = true) {fr to : Pt} {U : Us} (hU : UOk c fr to U)
theorem lastD_mid (s : Gt) : ∀ (l : List Gt) (x : Gt) (r : List Gt), r ≠ [] → lastD s (l ++ x :: r) = lastD s r
  | [], x, r, hr => by
    cases r with
    | nil => exact absurd rfl hr
    | cons y r => rfl
  | [z], x, r, hr => by
    cases r with
    | nil => exact absurd rfl hr
    | cons y r => rfl
  | z :: z2 :: l, x, r, hr => lastD_mid s (z2 :: l) x r hr
theorem lastD_mem (s : Gt) : ∀ r : List Gt, r ≠ [] → lastD s r ∈ r
  | [], h => absurd rfl h
  | [a], _ => by simp [lastD]
  | a :: b :: l, _ => List.mem_cons_of_mem _ (lastD_mem s (b :: l) (by simp))
include h hU in
/-- One more way. -/
theorem push_all (hc : 1 < cells c) (hft : adjB fr to = false) (hne : fr ≠ to) {l : List Gt} (hn : (srcG fr :: l).Nodup) (hops : ∀ x ∈ srcG fr :: l, opn c (gp x) = true) (hch : Chain (rmI c U fr to) (srcG fr :: l)) (ht : lastD (srcG fr) (srcG fr :: l) = snkG to) :
    UOk c fr to (pushU U (srcG fr :: l)) ∧ outS (allG c) (flN (pushU U (srcG fr :: l))) (srcG fr) = outS (allG c) (flN U) (srcG fr) + 1 := by
  have hst : srcG fr ≠ snkG to := fun e => by have := congrArg (fun g : Gt => g.2.2) e; simp [srcG, snkG] at this
  -- no step of the way is an end's own
  have notown : ∀ (p : List Gt) (a b : Gt) (q : List Gt), srcG fr :: l = p ++ a :: b :: q → ¬ ownE fr to a b := by
    rintro p a b q e ⟨o1, o2, o3, o4⟩
    rcases o4 with o4 | o4
    · have hb : b = srcG fr := gate_eq (by rw [← o3, o4]; rfl) (by rw [o2]; rfl)
      rw [e] at hn
      cases p with
      | nil =>
        have : a = srcG fr := (List.cons.inj e).1.symm
        rw [this] at o1; exact absurd o1 (by simp [srcG])
      | cons x p =>
        have hx : x = srcG fr := (List.cons.inj e).1.symm
        have := (List.nodup_cons.1 hn).1
        exact this (by rw [hx, ← hb]; simp)
    · have ha : a = snkG to := gate_eq (by rw [o4]; rfl) (by rw [o1]; rfl)
      rw [e] at hn ht
      rw [lastD_mid _ p a (b :: q) (by simp)] at ht
      have hm := lastD_mem (srcG fr) (b :: q) (by simp)
      rw [ht, ← ha] at hm
      exact (List.nodup_cons.1 (List.nodup_append.1 hn).2.1).1 hm
  have split : ∀ (p q : List Gt), srcG fr :: l = p ++ q → (∀ x ∈ q, opn c (gp x) = true) → Fwd U q ∧ (Chain (rmI c U fr to) q → Chain (fun a b => flN U a b < capM c fr to a b) q) := by
    intro p q
    induction q generalizing p with
    | nil => exact fun _ _ => ⟨trivial, fun _ => trivial⟩
    | cons a q ih =>
      intro e ho
      cases q with
      | nil => exact ⟨trivial, fun _ => trivial⟩
      | cons b q =>
        obtain ⟨j1, j2⟩ := ih (p ++ [a]) (by rw [e]; simp) (fun x hx => ho x (List.mem_cons_of_mem _ hx))
        refine ⟨⟨?_, j1⟩, fun hcq => ⟨?_, j2 hcq.2⟩⟩
        · exact no_double h hU hc hft (pre := p) (suf := q) (by rw [← e]; exact hn) (by rw [← e]; exact hops) (by rw [← e]; exact hch) (by rw [← e]; rfl) (by rw [← e]; exact ht)
        · rcases (room_iff hU hc (ho a (by simp))).1 hcq.1 with h1 | h1
          · exact h1
          · exact absurd h1 (notown p a b q e)
  obtain ⟨hF, hC⟩ := split [] (srcG fr :: l) rfl hops
  obtain ⟨i1, i2, i3, _, i5⟩ := pushU_is hU.nd hU.one (srcG fr :: l) hn hF
  have hV : ∀ x ∈ srcG fr :: l, x ∈ allG c := fun x hx => mem_allG h (opn_has (hops x hx))
  obtain ⟨f1, f2⟩ := hU.fl.push (allG_nodup h) hn hV (hC hch) ht hst
  have e : flN (pushU U (srcG fr :: l)) = pushP (flN U) (srcG fr :: l) := funext fun x => funext fun y => i3 x y
  rw [e]
  refine ⟨⟨i1, by rw [e]; exact f1, i2, fun a b hab => ?_⟩, f2⟩
  rcases i5 a b hab with h1 | ⟨p, q, ep, hq⟩
  · exact hU.sup a b h1
  · obtain ⟨hF2, hC2⟩ := split p (a :: b :: q) ep (fun x hx => hops x (by rw [ep]; exact List.mem_append.2 (Or.inr hx)))
    have hch2 : Chain (rmI c U fr to) (a :: b :: q) := by
      rw [ep] at hch
      clear hF hC i5 ep
      induction p with
      | nil => exact hch
      | cons x p ih =>
        cases p with
        | nil => exact hch.2
        | cons x2 p => exact ih hch.2
    have this : flN U a b < capM c fr to a b := (hC2 hch2).1
    rw [flN_0 hF2.1 hq] at this
    exact this
end
end Go.Proofs.Ytcknpoeannbpbaa

set_option linter.unusedSimpArgs false
set_option linter.unusedVariables false
set_option linter.unusedSectionVars false
namespace Go.Proofs.Ytcknpoeannbpbaa
open Go.RowKit

theorem loopM_nx {S R : Type} {step : S → Option (Ctl S R)} {s s' : S} {r : R} (h : step s = some (.next s')) (h2 : loopM step s' = some r) : loopM step s = some r := by
  obtain ⟨n, hn⟩ := loopM_iff.1 h2
  exact loopM_iff.2 ⟨n + 1, by simp only [loopN, h]; exact hn⟩
theorem loopM_ou {S R : Type} {step : S → Option (Ctl S R)} {s : S} {r : R} (h : step s = some (.out r)) : loopM step s = some r :=
  loopM_iff.2 ⟨1, by simp only [loopN, h]⟩
theorem mget_kv {κ V : Type} [DecidableEq κ] {m : List (κ × V)} (hn : (m.map (·.1)).Nodup) {k : κ} {v : V} (h : (k, v) ∈ m) : mget m k = some v := by
  obtain ⟨j, hj, e⟩ := List.mem_iff_getElem.1 h
  exact mget_at hn (j := j) (by rw [List.getElem?_eq_getElem hj, e])
section
variable {c : Mz} (h : mzOk c = true) {fr to : Pt} {U : Us} {T : List (Gt × Gt)}
include h in
theorem push_loop (hn : (T.map (·.1)).Nodup) {l : List Gt} (hl : (srcG fr :: l).Nodup) (hops : ∀ x ∈ srcG fr :: l, opn c (gp x) = true) (hch : Chain (fun a b => (b, a) ∈ T) (srcG fr :: l)) :
    ∀ (q : List Gt) (b : Gt) (suf : List Gt), q.reverse ++ b :: suf = srcG fr :: l → loopM (m_impl_flow_push_bimplflow_bimplMaze_s1 fr.1 fr.2 T) (b.1, b.2.1, b.2.2, pushU U (b :: suf)) = some (pushU U (srcG fr :: l))
  | [], b, suf, e => by
    have eb : b = srcG fr := (List.cons.inj e).1
    subst eb
    have es : suf = l := (List.cons.inj e).2
    subst es
    refine loopM_ou ?_
    unfold m_impl_flow_push_bimplflow_bimplMaze_s1
    simp only []
    rw [bif_f (by simp [srcG])]
  | a :: q, b, suf, e => by
    have e' : q.reverse ++ a :: b :: suf = srcG fr :: l := by rw [← e]; simp
    have ih := push_loop hn hl hops hch q a (b :: suf) e'
    have hbs : b ≠ srcG fr := fun eb => by
      have hh := congrArg List.head? e'
      rw [← e'] at hl
      cases hq : q.reverse with
      | nil =>
        rw [hq] at hh hl
        have : a = srcG fr := Option.some.inj hh
        exact (List.nodup_cons.1 hl).1 (by rw [this, ← eb]; simp)
      | cons x r =>
        rw [hq] at hh hl
        have : x = srcG fr := Option.some.inj hh
        exact (List.nodup_cons.1 hl).1 (by rw [this, ← eb]; simp)
    have hba : (b, a) ∈ T := by
      have : ∀ (p : List Gt), Chain (fun a b => (b, a) ∈ T) (p ++ a :: b :: suf) → (b, a) ∈ T := by
        intro p
        induction p with
        | nil => exact fun hh => hh.1
        | cons x p ih =>
          intro hh
          cases p with
          | nil => exact ih hh.2
          | cons x2 p => exact ih hh.2
      exact this q.reverse (by rw [e']; exact hch)
    have ob : opn c (gp b) = true := hops b (by rw [← e']; simp)
    have oa : opn c (gp a) = true := hops a (by rw [← e']; simp)
    have sb := opn_smP h ob
    have sa := opn_smP h oa
    refine loopM_nx ?_ ih
    unfold smP gp at sa sb
    simp only [] at sa sb
    have ok0 : okIIB b = true := by unfold okIIB; simp [okI_sm, sb]
    have ok1 : okIIBIIB (ed b a) = true := by unfold okIIBIIB ed; simp [okI_sm, sa, sb]
    have ok2 : okIIBIIB (ed a b) = true := by unfold okIIBIIB ed; simp [okI_sm, sa, sb]
    have g0 : mgC (okIIB ((b.1, b.2.1, b.2.2))) (0, 0, false) T ((b.1, b.2.1, b.2.2)) = some a := by
      have e3 : ((b.1, b.2.1, b.2.2) : Gt) = b := rfl
      rw [e3]
      unfold mgC; rw [ok0, mget_kv hn hba]; rfl
    have g1 : mgC (okIIBIIB ((b.1, b.2.1, b.2.2, a.1, a.2.1, a.2.2))) false (pushU U (b :: suf)) ((b.1, b.2.1, b.2.2, a.1, a.2.1, a.2.2)) = some (usd (pushU U (b :: suf)) b a) := by
      show mgC (okIIBIIB (ed b a)) false (pushU U (b :: suf)) (ed b a) = _
      unfold mgC; rw [ok1]; rfl
    have m1 : mpC (okIIBIIB ((b.1, b.2.1, b.2.2, a.1, a.2.1, a.2.2))) = some () := by
      show mpC (okIIBIIB (ed b a)) = _
      unfold mpC; rw [ok1]; rfl
    have m2 : mpC (okIIBIIB ((a.1, a.2.1, a.2.2, b.1, b.2.1, b.2.2))) = some () := by
      show mpC (okIIBIIB (ed a b)) = _
      unfold mpC; rw [ok2]; rfl
    unfold m_impl_flow_push_bimplflow_bimplMaze_s1
    simp only []
    have hcond : (!(b.1 == fr.1 && b.2.1 == fr.2 && b.2.2 == true)) = true := by
      rw [Bool.not_eq_true', Bool.eq_false_iff]
      intro hh
      simp only [Bool.and_eq_true, beq_iff_eq] at hh
      exact hbs (Prod.ext hh.1.1 (Prod.ext hh.1.2 hh.2))
    rw [bif_t hcond, g0]
    simp only [bind_some']
    rw [g1]
    simp only [bind_some']
    show _ = some (Ctl.next (a.1, a.2.1, a.2.2, updU (pushU U (b :: suf)) a b))
    unfold updU
    cases hu : usd (pushU U (b :: suf)) b a with
    | true =>
      rw [bif_t (by rfl), m1, if_pos rfl]
      rfl
    | false =>
      rw [bif_f (by rfl), m2, if_neg (by simp)]
      rfl
end
end Go.Proofs.Ytcknpoeannbpbaa
