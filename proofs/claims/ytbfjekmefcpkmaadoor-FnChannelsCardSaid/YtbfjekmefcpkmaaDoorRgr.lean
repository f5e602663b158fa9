/- A range over a map that may hand back from within. -/
import Derived.Test.YtbfjekmefcpkmaaDoorGte
set_option linter.unusedSimpArgs false
set_option linter.unusedVariables false
set_option linter.unusedSectionVars false
namespace Go.Proofs.YtbfjekmefcpkmaaDoor
open Go.RowKit
section
variable {P : Program} {Q : Exit → Act → World → Prop} {N : Nat} {E : Env} {a : Act} {w : World} {Rep : Nat → Act → World → Prop} {n : Nat}
def LoopAny (Rep : Nat → Act → World → Prop) (Q : Exit → Act → World → Prop) (n : Nat) : Exit → Act → World → Prop :=
 Exit.then (fun a' w' => ∃ m, m < n ∧ Rep m a' w') Q
theorem wp_loopAny {c : Code} {n0 : Nat} (h0 : Rep n0 a w) (round : ∀ n a w, Rep n a w → c.wp P (LoopAny Rep Q n) a w) : (Code.loop c).wp P Q a w := by
 suffices H : ∀ n a w, Rep n a w → ∀ b k cs, ∃ e a' w', Q e a' w' ∧ Arrives P (lone (b.at a (.code c :: .inLoop c :: k)) cs w) b k cs e a' w' by
  intro b k cs
  obtain ⟨e, a', w', hq, harr⟩ := H n0 a w h0 b k cs
  exact ⟨e, a', w', hq, .of_steps (.one step_loop) harr⟩
 intro n
 induction n using Nat.strongRecOn with
 | _ n ih =>
  intro a w hr b k cs
  obtain ⟨e, a₁, w₁, hq, harr⟩ := round n a w hr b (.inLoop c :: k) cs
  cases e with
  | normal =>
   obtain ⟨m, hm, hrep⟩ := hq
   obtain ⟨e₂, a₂, w₂, hq₂, harr₂⟩ := ih m hm a₁ w₁ hrep b k cs
   exact ⟨e₂, a₂, w₂, hq₂, .of_steps (Steps.trans harr (.one step_inLoop)) harr₂⟩
  | _ => exact ⟨_, a₁, w₁, hq, .pass (x := .inLoop c) rfl (fun _ _ => .inl (by simp)) harr⟩
theorem cW_loopA {c : Code} {n0 : Nat} (Rep : Nat → Act → World → Prop) (h0 : St N E a → Rep n0 (putE E a) w)
  (round : ∀ n a w, Rep n a w → c.wp P (LoopAny Rep Q n) a w) : cW P (.loop c) Q N E a w := fun hst => wp_loopAny (h0 hst) round
theorem eX_nextA {m : Nat} (h : m < n) (k : St N E a → Rep m (putE E a) w) : eX .normal (LoopAny Rep Q n) N E a w := fun hst => ⟨m, h, k hst⟩
theorem eX_outXA {id : Nat} (k : eX (.exit id) Q N E a w) : eX (.exit id) (LoopAny Rep Q n) N E a w := k
theorem eX_outRA (k : eX .ret Q N E a w) : eX .ret (LoopAny Rep Q n) N E a w := k
theorem qLA (h : QCalm Q) : QCalm (LoopAny Rep Q n) := fun c a d v w hh => h c a d v w hh
end
theorem cdn_lt {α : Type} {l a d : List α} {p : α} {n : Nat} (hn : l.length = n) (h : l = a ++ p :: d) : (a ++ d).length < n := by
 subst hn; subst h
 rw [List.length_append, List.length_append, List.length_cons]; omega
def foldE {σ α ρ : Type} (step : σ → α → Option (Ctl σ ρ)) : σ → List α → Option (Sum σ ρ)
 | s, [] => some (.inl s)
 | s, p :: l => match step s p with
  | some (.next s') => foldE step s' l
  | some (.out v) => some (.inr v)
  | none => none
theorem foldE_app {σ α ρ : Type} (step : σ → α → Option (Ctl σ ρ)) : ∀ (l d : List α) (s s' : σ), foldE step s l = some (.inl s') → foldE step s (l ++ d) = foldE step s' d
 | [], d, s, s', h => by cases h; rfl
 | p :: l, d, s, s', h => by
  simp only [List.cons_append, foldE] at h ⊢
  cases hs : step s p with
  | none => rw [hs] at h; cases h
  | some c =>
   rw [hs] at h
   cases c with
   | next s1 => exact foldE_app step l d s1 s' h
   | out r => cases h
theorem foldE_snoc {σ α ρ : Type} {step : σ → α → Option (Ctl σ ρ)} {s0 s s' : σ} {l : List α} {p : α} (h : foldE step s0 l = some (.inl s)) (h2 : step s p = some (.next s')) : foldE step s0 (l ++ [p]) = some (.inl s') := by
 rw [foldE_app step l [p] s0 s h]
 simp only [foldE, h2]
theorem foldE_step {σ α ρ τ : Type} {step : σ → α → Option (Ctl σ ρ)} {s0 s : σ} {l d : List α} {p : α} {k : Sum σ ρ → Option τ} {x : τ} (h : foldE step s0 l = some (.inl s)) (h2 : Option.bind (foldE step s0 (l ++ p :: d)) k = some x) :
  ∃ y, step s p = some y ∧ ∀ v, y = .out v → k (.inr v) = some x := by
 rw [foldE_app step l _ s0 s h] at h2
 simp only [foldE] at h2
 cases hs : step s p with
 | none => rw [hs] at h2; cases h2
 | some c =>
  cases c with
  | next s' => exact ⟨_, rfl, fun v hv => by cases hv⟩
  | out r =>
   rw [hs] at h2
   exact ⟨_, rfl, fun v hv => by cases hv; exact h2⟩
end Go.Proofs.YtbfjekmefcpkmaaDoor
