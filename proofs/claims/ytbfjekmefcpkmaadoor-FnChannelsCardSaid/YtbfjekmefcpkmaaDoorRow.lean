/- The engine: cuts, loops' ways out, slices of slices. -/
import Derived.Test.YtbfjekmefcpkmaaDoorOwn
set_option linter.unusedSimpArgs false
set_option linter.unusedVariables false
namespace Go.Proofs.YtbfjekmefcpkmaaDoor
open Go.RowKit

abbrev wr (n : Int) : Int := IntKind.i64.wrap n
theorem bindE {α β : Type} {x : Option α} {f : α → Option β} {r : β} (h : x.bind f = some r) : ∃ y, x = some y ∧ f y = some r := by
 cases x with
 | none => cases h
 | some y => exact ⟨y, rfl, h⟩
theorem condT {α : Type} {e : Bool} {x y z : α} (h : e = true) (k : (bif e then x else y) = z) : x = z := by rw [h] at k; exact k
theorem condF {α : Type} {e : Bool} {x y z : α} (h : e = false) (k : (bif e then x else y) = z) : y = z := by rw [h] at k; exact k
theorem someE {α : Type} {x y : α} (h : some x = some y) : x = y := Option.some.inj h
def chk (b : Bool) : Option Unit := if b then some () else none
theorem chkE {b : Bool} {u : Unit} (h : chk b = some u) : b = true := by unfold chk at h; split at h; assumption; cases h
section
variable {P : Program} {Q : Exit → Act → World → Prop} {N : Nat} {E : Env} {a : Act} {w : World}
theorem Fr.goX {e : Exit} (hf : Fr N E a) (hl : lowB N E = true) (k : eX e Q N E a w) : Q e a w := by
 have := k ⟨hf.size, hf.defers, lowB_spec hl⟩
 rwa [putE_same hf.holds] at this
theorem cW_cut {c : Code} (J : Act → World → Prop) (hx : cW P c (Exit.then J Q) N E a w) (hy : ∀ a' w', J a' w' → Q .normal a' w') : cW P c Q N E a w :=
 fun hst => Code.wp_mono (fun e a' w' h => by cases e <;> first | exact hy _ _ h | exact h) (hx hst)
theorem eX_J {J : Act → World → Prop} (h : St N E a → J (putE E a) w) : eX .normal (Exit.then J Q) N E a w := h
section
variable {S R : Type} {step : S → Option (Ctl S R)} {Rep : S → Act → World → Prop} {res : R} {s : S}
theorem eX_next {s' : S} (h : step s = some (.next s')) (k : St N E a → Rep s' (putE E a) w) : eX .normal (LoopPost step Rep res Q s) N E a w := fun hst => ⟨s', h, k hst⟩
theorem eX_outX {r : R} {id : Nat} (h : step s = some (.out r)) (k : res = r → eX (.exit id) Q N E a w) : eX (.exit id) (LoopPost step Rep res Q s) N E a w := fun hst => ⟨r, h, fun e => k e hst⟩
theorem eX_outR {r : R} (h : step s = some (.out r)) (k : res = r → eX .ret Q N E a w) : eX .ret (LoopPost step Rep res Q s) N E a w := fun hst => ⟨r, h, fun e => k e hst⟩
theorem cW_loop {c : Code} {s0 : S} (step : S → Option (Ctl S R)) (Rep : S → Act → World → Prop) (hm : loopM step s0 = some res) (h0 : St N E a → Rep s0 (putE E a) w)
  (round : ∀ s x a w, Rep s a w → step s = some x → c.wp P (LoopPost step Rep res Q s) a w) : cW P (.loop c) Q N E a w := fun hst => wp_loopM step Rep hm (h0 hst) round
end
variable {ops : Array Oper} {i : Nat} {α : Type} {k : Nat} {enc : α → List Value}
theorem wS_bs0 {d t T : Nat} {z : Value} (ho : bsI ops N E a i = some (d, t, 0, [])) (hT : ElTy P t T k z)
  (kk : ∀ b w', w.heap.size ≤ b → Ow k enc T w' [b] (some ⟨b, 0, none⟩) 0 ([] : List α) → Chg [] w w' → wS P ops Q N (i + 1) ((d, .slice (some ⟨b, 0, none⟩) 0 0) :: E) a w') : wS P ops Q N i E a w := by
 unfold bsI at ho
 split at ho
 ·rename_i d' t' n' pp hat
  simp only [Option.some.injEq, Prod.mk.injEq] at ho
  obtain ⟨rfl, rfl, rfl, hps⟩ := ho
  obtain ⟨g1, g2, g3⟩ := atI_spec hat
  obtain ⟨inf, hi, hzz, hs, hb⟩ := hT.info
  refine wS_val (w' := w.alloc (.cells #[] T)) g1 g2 (g3 _ rfl) (fun o ho => ?_) (kk w.heap.size _ (Nat.le_refl _) ⟨Or.inr ⟨w.heap.size, [], rfl, rfl, Cl.new w T [], by simp, by simp, by simp, by simp⟩⟩ (Chg.alloc _ _))
  simp only [execOp, ho]
  simp [Instr.buildSlice, run_underlying hT.und, sizeOf, zeroValue, typeInfo, hi, hs, hps, Instr.fill, newRow]
  rw [show Array.map (fun (x : Nat) => (default : Value)) (Array.range 0) = #[] from Array.eq_empty_of_size_eq_zero (by simp)]
 ·cases ho
end
theorem Ow.cap_le {α : Type} {k : Nat} {enc : α → List Value} {w : World} {T : TypeId} {fp : List Nat} {A : Option Addr} {cap : Nat} {l : List α} (h : Ow k enc T w fp A cap l) : l.length ≤ cap := by
 rcases h.is with ⟨_, rfl, rfl, _⟩ | ⟨g, cs, _, _, _, _, hl, _⟩
 ·simp
 ·exact hl
/-! ### Slices of slices -/
abbrev Hd := Option Addr × Nat × Nat
def encH (h : Hd) : List Value := [.slice h.1 h.2.1 h.2.2]
theorem encH_ok : EncOk 1 encH := ⟨by omega, fun _ => rfl, fun h u hu => by simp only [encH, List.mem_singleton] at hu; subst hu; rfl⟩
def RowsOk {α : Type} (k : Nat) (enc : α → List Value) (w : World) (fp : List Nat) (hs : List Hd) (ll : List (List α)) : Prop :=
 hs.length = ll.length ∧ ∀ (i : Nat) l, ll[i]? = some l → ∃ A c, hs[i]? = some (A, l.length, c) ∧ Sl k enc w fp A l ∧ l.length ≤ c
structure SlR {α : Type} (k : Nat) (enc : α → List Value) (w : World) (fp : List Nat) (A : Option Addr) (ll : List (List α)) : Prop where
 low : ∀ b ∈ fp, b < w.heap.size
 rows : ∃ hs, Sl 1 encH w fp A hs ∧ RowsOk k enc w fp hs ll
structure RowsOw {α : Type} (k : Nat) (enc : α → List Value) (T2 : TypeId) (w : World) (fpr : List Nat) (f : Nat → List Nat) (hs : List Hd) (ll : List (List α)) : Prop where
 len : hs.length = ll.length
 row : ∀ (i : Nat) l, ll[i]? = some l → ∃ A c, hs[i]? = some (A, l.length, c) ∧ Ow k enc T2 w (f i) A c l
 dj : ∀ i j, i ≠ j → Dj (f i) (f j)
 sub : ∀ i, ∀ b ∈ f i, b ∈ fpr
 low : ∀ b ∈ fpr, b < w.heap.size
structure OwR {α : Type} (k : Nat) (enc : α → List Value) (T T2 : TypeId) (w : World) (fpm fpr : List Nat) (A : Option Addr) (cap : Nat) (ll : List (List α)) : Prop where
 is : ∃ hs f, Ow 1 encH T w fpm A cap hs ∧ RowsOw k enc T2 w fpr f hs ll
 dj : Dj fpm fpr
section
variable {α : Type} {k : Nat} {enc : α → List Value} {w w' : World} {fp S : List Nat} {A : Option Addr} {ll : List (List α)} {T T2 : TypeId} {cap : Nat} {fpm fpr : List Nat}
theorem Sl.fpMore {l : List α} {fp' : List Nat} (h : Sl k enc w fp A l) (hs : ∀ b ∈ fp, b ∈ fp') (hl : ∀ b ∈ fp', b < w.heap.size) : Sl k enc w fp' A l :=
 ⟨hl, fun h0 => by obtain ⟨ad, h1, h2, h3⟩ := h.cells h0; exact ⟨ad, h1, hs _ h2, h3⟩⟩
theorem RowsOk.chg {hs : List Hd} (h : RowsOk k enc w fp hs ll) (hc : Chg S w w') (hn : Dj fp S) : RowsOk k enc w' fp hs ll :=
 ⟨h.1, fun i l hl => by obtain ⟨A, c, h1, h2, h3⟩ := h.2 i l hl; exact ⟨A, c, h1, h2.chg hc hn, h3⟩⟩
theorem RowsOk.fpMore {hs : List Hd} {fp' : List Nat} (h : RowsOk k enc w fp hs ll) (hs' : ∀ b ∈ fp, b ∈ fp') (hl : ∀ b ∈ fp', b < w.heap.size) : RowsOk k enc w fp' hs ll :=
 ⟨h.1, fun i l hi => by obtain ⟨A, c, h1, h2, h3⟩ := h.2 i l hi; exact ⟨A, c, h1, h2.fpMore hs' hl, h3⟩⟩
theorem SlR.chg (h : SlR k enc w fp A ll) (hc : Chg S w w') (hn : Dj fp S) : SlR k enc w' fp A ll := by
 obtain ⟨vs, h1, h2⟩ := h.rows
 exact ⟨fun b hb => Nat.lt_of_lt_of_le (h.low b hb) hc.size, vs, h1.chg hc hn, h2.chg hc hn⟩
theorem SlR.is (h : SlR k enc w fp A ll) {i : Int} {l : List α} (hg : geti ll i = some l) : A.isSome = true ∧ 0 ≤ i ∧ i < ll.length := by
 obtain ⟨vs, h1, h2⟩ := h.rows
 obtain ⟨h0, hlt, hget⟩ := geti_some hg
 obtain ⟨B, c, hv, _⟩ := h2.2 _ _ hget
 have := h1.is (i := i) (x := (B, l.length, c)) (by unfold geti; rw [if_pos h0]; exact hv)
 exact ⟨this.1, h0, hlt⟩
theorem SlR.row (h : SlR k enc w fp A ll) {i : Int} {l : List α} (hg : geti ll i = some l) : ∃ B c, w.cell? (elA A 1 i 0) = some (.slice B l.length c) ∧ Sl k enc w fp B l ∧ l.length ≤ c := by
 obtain ⟨vs, h1, h2⟩ := h.rows
 obtain ⟨h0, hlt, hget⟩ := geti_some hg
 obtain ⟨B, c, hv, hB⟩ := h2.2 _ _ hget
 exact ⟨B, c, h1.cell (i := i) (x := (B, l.length, c)) (by unfold geti; rw [if_pos h0]; exact hv) 0 rfl, hB⟩
theorem RowsOw.chg {f : Nat → List Nat} {hs : List Hd} (h : RowsOw k enc T2 w fpr f hs ll) (hc : Chg S w w') (hn : Dj fpr S) : RowsOw k enc T2 w' fpr f hs ll :=
 ⟨h.len, fun i l hl => by obtain ⟨A, c, h1, h2⟩ := h.row i l hl; exact ⟨A, c, h1, h2.chg hc (fun x hx => hn x (h.sub i x hx))⟩, h.dj, h.sub, fun b hb => Nat.lt_of_lt_of_le (h.low b hb) hc.size⟩
theorem RowsOw.ok {f : Nat → List Nat} {hs : List Hd} (h : RowsOw k enc T2 w fpr f hs ll) (he : EncOk k enc) : RowsOk k enc w fpr hs ll :=
 ⟨h.len, fun i l hl => by obtain ⟨A, c, h1, h2⟩ := h.row i l hl; exact ⟨A, c, h1, (h2.sl he).fpMore (h.sub i) h.low, h2.cap_le⟩⟩
theorem OwR.low (h : OwR k enc T T2 w fpm fpr A cap ll) : ∀ b ∈ fpm ++ fpr, b < w.heap.size := by
 obtain ⟨hs, f, h1, h2⟩ := h.is
 intro b hb
 rcases List.mem_append.1 hb with hb | hb
 ·exact h1.low b hb
 ·exact h2.low b hb
theorem OwR.chg (h : OwR k enc T T2 w fpm fpr A cap ll) (hc : Chg S w w') (hn : Dj (fpm ++ fpr) S) : OwR k enc T T2 w' fpm fpr A cap ll := by
 obtain ⟨hs, f, h1, h2⟩ := h.is
 exact ⟨⟨hs, f, h1.chg hc (fun x hx => hn x (List.mem_append_left _ hx)), h2.chg hc (fun x hx => hn x (List.mem_append_right _ hx))⟩, h.dj⟩
theorem OwR.slr (h : OwR k enc T T2 w fpm fpr A cap ll) (he : EncOk k enc) : SlR k enc w (fpm ++ fpr) A ll := by
 have hl := h.low
 obtain ⟨hs, f, h1, h2⟩ := h.is
 exact ⟨hl, hs, (h1.sl encH_ok).fpMore (fun b hb => List.mem_append_left _ hb) hl, (h2.ok he).fpMore (fun b hb => List.mem_append_right _ hb) hl⟩
theorem OwR.row (h : OwR k enc T T2 w fpm fpr A cap ll) (he : EncOk k enc) {i : Int} {l : List α} (hg : geti ll i = some l) : ∃ B c, w.cell? (elA A 1 i 0) = some (.slice B l.length c) ∧ Sl k enc w fpr B l ∧ l.length ≤ c := by
 obtain ⟨hs, f, h1, h2⟩ := h.is
 obtain ⟨h0, hlt, hget⟩ := geti_some hg
 obtain ⟨B, c, hv, hB⟩ := h2.row _ _ hget
 exact ⟨B, c, (h1.sl encH_ok).cell (i := i) (x := (B, l.length, c)) (by unfold geti; rw [if_pos h0]; exact hv) 0 rfl, (hB.sl he).fpMore (h2.sub _) h2.low, hB.cap_le⟩
theorem OwR.ofOw {hs : List Hd} (h : Ow 1 encH T w fpm A cap hs) (hl : hs.length = ll.length) (h0 : ∀ (i : Nat) l, ll[i]? = some l → l = [] ∧ hs[i]? = some (none, 0, 0)) : OwR k enc T T2 w fpm [] A cap ll :=
 ⟨⟨hs, fun _ => [], h, ⟨hl, fun i l hi => by
  obtain ⟨rfl, hx⟩ := h0 i l hi
  exact ⟨none, 0, hx, Ow.nil w⟩, fun _ _ _ => Dj.nil, fun _ b hb => absurd hb List.not_mem_nil, fun b hb => absurd hb List.not_mem_nil⟩⟩, Dj.nil⟩
end
end Go.Proofs.YtbfjekmefcpkmaaDoor
