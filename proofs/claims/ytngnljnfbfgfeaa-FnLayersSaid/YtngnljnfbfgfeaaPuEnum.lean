/- Layerings in order: all of them one after another, and level by level. -/
import Derived.Test.YtngnljnfbfgfeaaPur
set_option linter.unusedSimpArgs false
set_option linter.unusedVariables false
namespace Go.Proofs.Ytngnljnfbfgfeaa

/-- The longer ones of a beginning. -/
def kids (ok : List Int → Int → Bool) (p : List Int) : List (List Int) := (if ok p 0 then [p ++ [0]] else []) ++ (if ok p 1 then [p ++ [1]] else [])
/-- All that are so much longer, in order. -/
def enum (ok : List Int → Int → Bool) : Nat → List Int → List (List Int)
  | 0, p => [p]
  | m + 1, p => (if ok p 0 then enum ok m (p ++ [0]) else []) ++ (if ok p 1 then enum ok m (p ++ [1]) else [])
/-- Level by level. -/
def lev (ok : List Int → Int → Bool) : Nat → List (List Int)
  | 0 => [[]]
  | i + 1 => (lev ok i).flatMap (kids ok)
theorem enum_succ (ok : List Int → Int → Bool) (m : Nat) (p : List Int) : enum ok (m + 1) p = (kids ok p).flatMap (enum ok m) := by
  unfold kids
  show (if ok p 0 then enum ok m (p ++ [0]) else []) ++ (if ok p 1 then enum ok m (p ++ [1]) else []) = _
  rw [List.flatMap_append]
  cases ok p 0 <;> cases ok p 1 <;> simp
theorem lev_enum (ok : List Int → Int → Bool) (n : Nat) : ∀ i, i ≤ n → (lev ok i).flatMap (enum ok (n - i)) = enum ok n []
  | 0, _ => by simp [lev]
  | i + 1, h => by
    rw [← lev_enum ok n i (by omega)]
    show ((lev ok i).flatMap (kids ok)).flatMap (enum ok (n - (i + 1))) = _
    rw [List.flatMap_assoc, show n - i = (n - (i + 1)) + 1 by omega]
    congr 1
    funext p
    exact (enum_succ ok _ p).symm
theorem enum_lev (ok : List Int → Int → Bool) (n : Nat) : enum ok n [] = lev ok n := by
  rw [← lev_enum ok n n (Nat.le_refl _), Nat.sub_self]
  have : ∀ l : List (List Int), l.flatMap (enum ok 0) = l := fun l => by
    induction l with
    | nil => rfl
    | cons x l ih => rw [List.flatMap_cons, ih]; rfl
  exact this _
theorem enum_len (ok : List Int → Int → Bool) : ∀ m p, ∀ x ∈ enum ok m p, x.length = p.length + m
  | 0, p, x, h => by simp only [enum, List.mem_singleton] at h; subst h; rfl
  | m + 1, p, x, h => by
    rw [enum_succ, List.mem_flatMap] at h
    obtain ⟨y, hy, hx⟩ := h
    have hl := enum_len ok m y x hx
    have : y.length = p.length + 1 := by
      unfold kids at hy
      rw [List.mem_append] at hy
      rcases hy with hy | hy <;> (split at hy; (· simp only [List.mem_singleton] at hy; subst hy; simp); (· cases hy))
    omega
theorem lev_len (ok : List Int → Int → Bool) (i : Nat) : ∀ x ∈ lev ok i, x.length = i := fun x h => by
  rw [← enum_lev] at h
  simpa using enum_len ok i [] x h
theorem lev_count (ok : List Int → Int → Bool) : ∀ i, (lev ok i).length ≤ 2 ^ i
  | 0 => by simp [lev]
  | i + 1 => by
    show ((lev ok i).flatMap (kids ok)).length ≤ _
    have hk : ∀ p, (kids ok p).length ≤ 2 := fun p => by
      unfold kids
      cases ok p 0 <;> cases ok p 1 <;> simp
    have : ∀ l : List (List Int), (l.flatMap (kids ok)).length ≤ 2 * l.length := fun l => by
      induction l with
      | nil => simp
      | cons x l ih => have := hk x; rw [List.flatMap_cons, List.length_append, List.length_cons]; omega
    have h1 := this (lev ok i)
    have h2 := lev_count ok i
    rw [Nat.pow_succ]; omega
/-- What has been found: the best one, its cost, how many. -/
abbrev Fnd := Option (List Int × Int × Int)
def better (f : Fnd) (p : List Int) (c : Int) : Fnd := match f with
  | none => some (p, c, 1)
  | some (b, l, n) => if c < l then some (p, c, 1) else if c = l then some (b, l, n + 1) else f
def foundF (cost : List Int → Int) (l : List (List Int)) (f : Fnd) : Fnd := l.foldl (fun f p => better f p (cost p)) f
theorem foundF_append (cost : List Int → Int) (l m : List (List Int)) (f : Fnd) : foundF cost (l ++ m) f = foundF cost m (foundF cost l f) := by
  unfold foundF; rw [List.foldl_append]
end Go.Proofs.Ytngnljnfbfgfeaa
