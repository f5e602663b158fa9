/- The engine: small words that the printed walks use. -/
import Derived.Test.YtbfjekmefcpkmaaDoorRow
set_option linter.unusedSimpArgs false
set_option linter.unusedVariables false
namespace Go.Proofs.YtbfjekmefcpkmaaDoor
open Go.RowKit

theorem wS_bool {P : Program} {ops : Array Oper} {Q : Exit → Act → World → Prop} {N i : Nat} {E : Env} {a : Act} {w : World} (b : Bool) (ht : b = true → wS P ops Q N i E a w) (hf : b = false → wS P ops Q N i E a w) : wS P ops Q N i E a w := by cases b; exact hf rfl; exact ht rfl
theorem inApp {S a b : List Nat} {n : Nat} (h : ∀ x ∈ a, x ∈ S ∨ n ≤ x) (k : ∀ x ∈ b, x ∈ S ∨ n ≤ x) : ∀ x ∈ a ++ b, x ∈ S ∨ n ≤ x := fun x hx => by
 rcases List.mem_append.1 hx with hx | hx
 ·exact h x hx
 ·exact k x hx
theorem noneE {α : Type} {x : α} {C : Prop} (h : (none : Option α) = some x) : C := by cases h
theorem inNil {S : List Nat} {n : Nat} : ∀ x ∈ ([] : List Nat), x ∈ S ∨ n ≤ x := fun _ h => by cases h
theorem inLow {S fp : List Nat} {n : Nat} (h : ∀ x ∈ fp, n ≤ x) : ∀ x ∈ fp, x ∈ S ∨ n ≤ x := fun x hx => Or.inr (h x hx)
theorem inMem {S fp : List Nat} {n : Nat} (h : ∀ x ∈ fp, x ∈ S) : ∀ x ∈ fp, x ∈ S ∨ n ≤ x := fun x hx => Or.inl (h x hx)
theorem lowNil {n : Nat} : ∀ x ∈ ([] : List Nat), n ≤ x := fun _ h => by cases h
theorem low1 {n b : Nat} (h : n ≤ b) : ∀ x ∈ [b], n ≤ x := fun x hx => by simp only [List.mem_singleton] at hx; omega
theorem lt1 {n b : Nat} (h : b < n) : ∀ x ∈ [b], x < n := fun x hx => by simp only [List.mem_singleton] at hx; omega
theorem low_le {n m : Nat} {fp : List Nat} (h : n ≤ m) (g : ∀ x ∈ fp, m ≤ x) : ∀ x ∈ fp, n ≤ x := fun x hx => Nat.le_trans h (g x hx)
theorem notNil {b : Nat} : b ∉ ([] : List Nat) := fun h => by cases h
theorem dj1 {b : Nat} {fp : List Nat} (h : Dj [b] fp) : b ∉ fp := h b (by simp)
theorem box_cells {w : World} {b T : Nat} {cs vs : List Value} (h : Cl w b T cs) (off : Nat) {i : Nat} {u : Value} (hu : vs[i]? = some u) (hv : (cs.drop off).take vs.length = vs) : w.cell? ((⟨b, off, none⟩ : Addr).add i) = some u := by
 have hadd : (⟨b, off, none⟩ : Addr).add i = ⟨b, off + i, none⟩ := by
  unfold Addr.add; split
  ·rename_i e; rw [e]; rfl
  ·rfl
 obtain ⟨hi, _⟩ := List.getElem?_eq_some_iff.1 hu
 rw [hadd, h.cell, ← hu]
 conv => rhs; rw [← hv]
 rw [List.getElem?_take, if_pos hi, List.getElem?_drop]
def mkC (n : Int) : Option Unit := chk (decide (0 ≤ n) && decide (n ≤ lim))
theorem mkE {n : Int} {u : Unit} (h : mkC n = some u) : 0 ≤ n ∧ n ≤ lim := by
 have := chkE h
 simp only [Bool.and_eq_true, decide_eq_true_eq] at this
 exact this
def apC {α : Type} (l l2 : List α) : Option Unit := chk (decide (l.length + l2.length ≤ lim))
theorem apE {α : Type} {l l2 : List α} {u : Unit} (h : apC l l2 = some u) : l.length + l2.length ≤ lim := by
 have := chkE h
 simpa using this
theorem ElTy.mk' {P : Program} {t e k : Nat} {z : Value} (h1 : P.underlying t = some (.slice e)) (h2 : (P.info? e).map (fun i => (i.zero, i.size, Nat.ble i.bytes 128)) = some (some z, k, true)) (h3 : z.cells.size = k) : ElTy P t e k z := by
 obtain ⟨i, hi, hz⟩ := Option.map_eq_some_iff.1 h2
 simp only [Prod.mk.injEq] at hz
 exact ⟨h1, ⟨i, hi, hz.1, hz.2.1, Nat.le_of_ble_eq_true hz.2.2⟩, h3⟩
theorem SlTy.of {P : Program} {t e k : Nat} (h1 : P.underlying t = some (.slice e)) (h2 : pureRun P (sizeOf e) = some k) : SlTy P t e k := ⟨h1, h2⟩
theorem OwR.nil {α : Type} {k : Nat} {enc : α → List Value} {T T2 : TypeId} (w : World) : OwR k enc T T2 w [] [] none 0 ([] : List (List α)) :=
 OwR.ofOw (Ow.nil w) rfl (fun i l h => by simp at h)
theorem Dj.inl {a b c : List Nat} (h : Dj a (b ++ c)) : Dj a b := fun x hx hy => h x hx (List.mem_append_left _ hy)
theorem Dj.inr {a b c : List Nat} (h : Dj a (b ++ c)) : Dj a c := fun x hx hy => h x hx (List.mem_append_right _ hy)
theorem low_inl {n : Nat} {b c : List Nat} (h : ∀ x ∈ b ++ c, n ≤ x) : ∀ x ∈ b, n ≤ x := fun x hx => h x (List.mem_append_left _ hx)
theorem low_inr {n : Nat} {b c : List Nat} (h : ∀ x ∈ b ++ c, n ≤ x) : ∀ x ∈ c, n ≤ x := fun x hx => h x (List.mem_append_right _ hx)
theorem memS_inl {S : List Nat} {n : Nat} {b c : List Nat} (h : ∀ x ∈ b ++ c, x ∈ S ∨ n ≤ x) : ∀ x ∈ b, x ∈ S ∨ n ≤ x := fun x hx => h x (List.mem_append_left _ hx)
def encI (x : Int) : List Value := [.int .i64 x]
def encB (x : Bool) : List Value := [.bool x]
def encII (x : Int × Int) : List Value := [.int .i64 x.1, .int .i64 x.2]
def encIII (x : Int × Int × Int) : List Value := [.int .i64 x.1, .int .i64 x.2.1, .int .i64 x.2.2]
def encIIII (x : Int × Int × Int × Int) : List Value := [.int .i64 x.1, .int .i64 x.2.1, .int .i64 x.2.2.1, .int .i64 x.2.2.2]
def encIIIII (x : Int × Int × Int × Int × Int) : List Value := [.int .i64 x.1, .int .i64 x.2.1, .int .i64 x.2.2.1, .int .i64 x.2.2.2.1, .int .i64 x.2.2.2.2]
theorem encI_ok : EncOk 1 encI := ⟨by omega, fun _ => rfl, fun x u h => by simp only [encI, List.mem_cons, List.not_mem_nil, or_false] at h; subst h; rfl⟩
theorem encB_ok : EncOk 1 encB := ⟨by omega, fun _ => rfl, fun x u h => by simp only [encB, List.mem_cons, List.not_mem_nil, or_false] at h; subst h; rfl⟩
end Go.Proofs.YtbfjekmefcpkmaaDoor
