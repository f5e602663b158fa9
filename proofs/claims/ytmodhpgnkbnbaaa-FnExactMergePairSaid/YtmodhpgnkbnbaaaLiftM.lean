/- A merge handed in: its five numbers. -/
import Derived.Test.YtmodhpgnkbnbaaaLift
set_option linter.unusedSimpArgs false
set_option linter.unusedVariables false
namespace Go.Proofs.Ytmodhpgnkbnbaaa
open Go.ChangeShapes Go.WideShapes Go.ChangeAt Go.RowKit Go.Joins

theorem cellsInt : Try.prog.cellsOf 2 = 1 := by kernel_rfl
theorem cellsReg : Try.prog.cellsOf 23 = 4 := by kernel_rfl
theorem cellsMrg : Try.prog.cellsOf 64 = 5 := by kernel_rfl
theorem list5 {α : Type} (l : List α) (h : l.length = 5) : ∃ a b c d e, l = [a, b, c, d, e] := by
  match l, h with
  | [a, b, c, d, e], _ => exact ⟨a, b, c, d, e, rfl⟩
set_option maxRecDepth 100000 in
theorem merge_form {H : Type} {enc : TypeId × Value → H} {W : World} {r : Reach} {b0 base : Nat} {sp : Nat → Bool} {hd : Bool} {v : Value} {dd : DataW H} {p : List MemPlace}
    (hv : Value.okWide Try.prog W r b0 64 v) (h : DataW.Trod enc Try.prog W base sp hd 64 v dd p) :
    ∃ a b c d e : Int, v = .agg #[.int .i64 a, .int .i64 b, .int .i64 c, .int .i64 d, .int .i64 e] := by
  obtain ⟨⟨l⟩, rfl, hsz⟩ := okWide_struct Try.underlying64 hv
  rw [cellsMrg] at hsz
  obtain ⟨c0, c1, c2, c3, c4, rfl⟩ := list5 l (by simpa using hsz)
  obtain ⟨fuel, hf⟩ := h
  obtain ⟨y0, y1, n, _, _, h0, h1⟩ := trod_struct2 Try.underlying64 hf
  simp only [Value.cells, cellsReg, cellsInt, List.drop_zero, List.drop_succ_cons, List.take_succ_cons, List.take_zero] at h0 h1
  obtain ⟨xs, n', _, _, _, hlen, hfs⟩ := DataW.trod_struct Try.underlying23 h0
  simp only [List.size_toArray, List.length_cons, List.length_nil] at hlen
  have e0 : DataW.trod enc Try.prog W base sp hd n' 2 [c0] = xs[0]? := by have := hfs 0 _ rfl; simpa [cellsInt] using this
  have e1 : DataW.trod enc Try.prog W base sp hd n' 2 [c1] = xs[1]? := by have := hfs 1 _ rfl; simpa [cellsInt] using this
  have e2 : DataW.trod enc Try.prog W base sp hd n' 2 [c2] = xs[2]? := by have := hfs 2 _ rfl; simpa [cellsInt] using this
  have e3 : DataW.trod enc Try.prog W base sp hd n' 2 [c3] = xs[3]? := by have := hfs 3 _ rfl; simpa [cellsInt] using this
  have hx : ∀ i, i < 4 → ∃ x, xs[i]? = some x := fun i hi => ⟨xs[i]'(by omega), List.getElem?_eq_getElem _⟩
  obtain ⟨x0, hx0⟩ := hx 0 (by omega)
  obtain ⟨x1, hx1⟩ := hx 1 (by omega)
  obtain ⟨x2, hx2⟩ := hx 2 (by omega)
  obtain ⟨x3, hx3⟩ := hx 3 (by omega)
  obtain ⟨n0, rfl, _⟩ := int_form Try.underlying2 (e0.trans hx0)
  obtain ⟨n1, rfl, _⟩ := int_form Try.underlying2 (e1.trans hx1)
  obtain ⟨n2, rfl, _⟩ := int_form Try.underlying2 (e2.trans hx2)
  obtain ⟨n3, rfl, _⟩ := int_form Try.underlying2 (e3.trans hx3)
  obtain ⟨n4, rfl, _⟩ := int_form Try.underlying2 h1
  exact ⟨n0, n1, n2, n3, n4, rfl⟩
end Go.Proofs.Ytmodhpgnkbnbaaa
