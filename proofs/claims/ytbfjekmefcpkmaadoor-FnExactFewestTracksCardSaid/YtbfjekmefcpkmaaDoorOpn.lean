/- Arguments that are slices: from what a statement hands in to 'Sl' and 'SlR'. -/
import Derived.Test.YtbfjekmefcpkmaaDoorRw2
import Derived.Test.YtbfjekmefcpkmaaDoorLift
import Derived.Deep.SlicePairs
import Derived.Deep.Matrix
set_option linter.unusedSimpArgs false
set_option linter.unusedVariables false
namespace Go.Proofs.YtbfjekmefcpkmaaDoor
open Go.ChangeShapes Go.WideShapes Go.ChangeAt Go.RowKit Go.Joins

def In64 (n : Int) : Prop := -9223372036854775808 ≤ n ∧ n < 9223372036854775808
theorem in64 {n : Int} (h : (Lit.int .i64 n).wf = true) : In64 n := by
  simp only [Lit.wf, IntKind.min, IntKind.max, Bool.and_eq_true, decide_eq_true_eq] at h
  have h1 : (-9223372036854775808 : Int) ≤ n := by simpa [IntKind.signed, IntKind.bits] using h.1
  have h2 : n ≤ (9223372036854775807 : Int) := by simpa [IntKind.signed, IntKind.bits] using h.2
  exact ⟨h1, by omega⟩
theorem Sl.nil_ {α : Type} {k : Nat} {enc : α → List Value} {w : World} {A : Option Addr} : Sl k enc w [] A [] := ⟨fun _ h => absurd h List.not_mem_nil, fun h => absurd h (Nat.lt_irrefl 0)⟩
theorem Sl.of {α : Type} {k : Nat} {enc : α → List Value} {w : World} {a : Addr} {l : List α} (hb : 0 < l.length → a.block < w.heap.size) (h : ∀ i x, l[i]? = some x → ∀ j u, (enc x)[j]? = some u → w.cell? ((a.add (i * k)).add j) = some u) :
    ∃ fp, Sl k enc w fp (some a) l ∧ (∀ b ∈ fp, b = a.block) := by
  by_cases h0 : 0 < l.length
  · exact ⟨[a.block], ⟨fun b hb' => by simp at hb'; subst hb'; exact hb h0, fun _ => ⟨a, rfl, by simp, h⟩⟩, fun b hb => by simpa using hb⟩
  · exact ⟨[], ⟨fun _ h => absurd h List.not_mem_nil, fun h => absurd h h0⟩, fun b hb => absurd hb List.not_mem_nil⟩
section
variable {H : Type} {enc : TypeId × Value → H} {P : Program} {W : World} {hd : Bool} {n : Nat} {x : DataW H × List MemPlace} {v : Value} {t e : TypeId}
theorem open_pts {f0 f1 : Field} (ht : P.underlying t = some (.slice e)) (he : P.underlying e = some (.struct #[f0, f1]))
    (ce : P.cellsOf e = 2) (o0 : f0.offset = 0) (o1 : f1.offset = 1) (c0 : P.cellsOf f0.type = 1) (c1 : P.cellsOf f1.type = 1) (t0 : P.underlying f0.type = some (.int .i64)) (t1 : P.underlying f1.type = some (.int .i64))
    (h : DataW.trod enc P W 0 (fun _ => true) hd n t [v] = some x) :
    ∃ (A : Option Addr) (cap : Nat) (ps : List (Int × Int)) (fp : List Nat), v = .slice A ps.length cap ∧ Sl 2 encII W fp A ps ∧ ps.length ≤ 9223372036854775807 ∧ ∀ p ∈ ps, In64 p.1 ∧ In64 p.2 := by
  rcases Go.Deep.open_slice_pairs ht he ce o0 o1 c0 c1 h with ⟨hv, _⟩ | ⟨a, len, cap, m, n', V0, V1, D0, D1, P0, P1, hv, _, hl, hm, hmm, _, hx⟩
  · exact ⟨none, 0, [], [], by simpa using hv, Sl.nil_, by simp, by simp⟩
  · have hlm : len ≤ m := by rw [hmm]; simpa using hl
    have each : ∀ i, i < len → ∃ q : Int × Int, V0 i = .int .i64 q.1 ∧ V1 i = .int .i64 q.2 ∧ In64 q.1 ∧ In64 q.2 := fun i hi => by
      obtain ⟨_, _, h3, h4⟩ := hx i (by omega)
      obtain ⟨n0, e0, w0⟩ := int_form t0 h3
      obtain ⟨n1, e1, w1⟩ := int_form t1 h4
      exact ⟨(n0, n1), e0, e1, in64 w0, in64 w1⟩
    obtain ⟨q, hq⟩ := Go.Deep.choose_lt each
    have hlen : ((List.range len).map q).length = len := by simp
    obtain ⟨fp, hS, _⟩ := Sl.of (k := 2) (enc := encII) (w := W) (a := a) (l := (List.range len).map q)
      (fun h0 => by rw [hlen] at h0; have := World.block_lt_of_cell? _ _ (hx 0 (by omega)).1; rwa [add_block] at this)
      (fun i p hp j u hu => by
        rw [List.getElem?_map] at hp
        obtain ⟨i', hi', rfl⟩ := Option.map_eq_some_iff.1 hp
        obtain ⟨hlt, rfl⟩ := List.getElem?_eq_some_iff.1 hi'
        simp only [List.length_range] at hlt
        simp only [List.getElem_range] at hu ⊢
        obtain ⟨g0, g1, _, _⟩ := hx i (by omega)
        obtain ⟨q0, q1, _, _⟩ := hq i hlt
        rw [q0] at g0
        rw [q1] at g1
        match j, hu with
        | 0, hu => simp only [encII, List.getElem?_cons_zero, Option.some.injEq] at hu; subst hu; rw [Go.Deep.add_add]; exact g0
        | 1, hu => simp only [encII, List.getElem?_cons_succ, List.getElem?_cons_zero, Option.some.injEq] at hu; subst hu; rw [Go.Deep.add_add]; exact g1
        | j + 2, hu => simp [encII] at hu)
    refine ⟨some a, cap, (List.range len).map q, fp, by rw [hlen]; simpa using hv, hS, by rw [hlen]; unfold maxLen at hm; omega, fun p hp => ?_⟩
    obtain ⟨i, hi, rfl⟩ := List.mem_map.1 hp
    exact (hq i (List.mem_range.1 hi)).2.2
theorem open_i64s (ht : P.underlying t = some (.slice e)) (he : P.underlying e = some (.int .i64)) (ce : P.cellsOf e = 1)
    (h : DataW.trod enc P W 0 (fun _ => true) hd n t [v] = some x) :
    ∃ (A : Option Addr) (cap : Nat) (l : List Int) (fp : List Nat), v = .slice A l.length cap ∧ Sl 1 encI W fp A l ∧ l.length ≤ 9223372036854775807 ∧ ∀ p ∈ l, In64 p := by
  rcases open_ints ht he ce h with ⟨hv, _⟩ | ⟨a, len, cap, zs, hv, _, hl, hm, hz, _, hx, hwf⟩
  · exact ⟨none, 0, [], [], by simpa using hv, Sl.nil_, by simp, by simp⟩
  · simp only [if_true] at hz
    have hlen : (zs.take len).length = len := by simp; omega
    obtain ⟨fp, hS, _⟩ := Sl.of (k := 1) (enc := encI) (w := W) (a := a) (l := zs.take len)
      (fun h0 => by rw [hlen] at h0; have := World.block_lt_of_cell? _ _ (hx 0 (by omega)); rwa [add_block] at this)
      (fun i p hp j u hu => by
        have hlt : i < len := by have := (List.getElem?_eq_some_iff.1 hp).1; omega
        have h1 := hx i (by omega)
        have hp' : zs[i]? = some p := by rw [List.getElem?_take] at hp; simpa [hlt] using hp
        have : zs.getD i 0 = p := by simp [List.getD, hp']
        rw [this] at h1
        match j, hu with
        | 0, hu => simp only [encI, List.getElem?_cons_zero, Option.some.injEq] at hu; subst hu; rw [Go.Deep.add_add, Nat.mul_one]; exact h1
        | j + 1, hu => simp [encI] at hu)
    exact ⟨some a, cap, zs.take len, fp, by rw [hlen]; simpa using hv, hS, by rw [hlen]; unfold maxLen at hm; omega, fun p hp => in64 (hwf p (List.mem_of_mem_take hp))⟩
theorem open_rows {q : TypeId} (ht : P.underlying t = some (.slice e)) (he : P.underlying e = some (.slice q)) (hq : P.underlying q = some (.int .i64)) (ce : P.cellsOf e = 1) (cq : P.cellsOf q = 1)
    (h : DataW.trod enc P W 0 (fun _ => true) hd n t [v] = some x) :
    ∃ (A : Option Addr) (cap : Nat) (ll : List (List Int)) (fp : List Nat), v = .slice A ll.length cap ∧ SlR 1 encI W fp A ll ∧ ll.length ≤ 9223372036854775807 ∧ ∀ r ∈ ll, r.length ≤ 9223372036854775807 ∧ ∀ p ∈ r, In64 p := by
  rcases Go.Deep.open_int_rows ht he hq ce cq h with ⟨hv, _⟩ | ⟨a, len, cap, A, L, C, Z, hv, _, hl, hm, _, hx⟩
  · exact ⟨none, 0, [], [], by simpa using hv, ⟨fun _ h => absurd h List.not_mem_nil, ⟨[], Sl.nil_, rfl, fun i l hl => by simp at hl⟩⟩, by simp, by simp⟩
  · let row : Nat → List Int := fun r => (Z r).take (L r)
    have rl : ∀ r, r < len → (row r).length = L r := fun r hr => by
      obtain ⟨_, h2, _, h4, _⟩ := hx r (by omega)
      simp only [row, List.length_take]; omega
    -- every row by itself
    have each : ∀ r, r < len → ∃ fp, Sl 1 encI W fp (A r) (row r) := fun r hr => by
      obtain ⟨h1, h2, h3, h4, h5, h6, h7⟩ := hx r (by omega)
      cases hA : A r with
      | none =>
        have : row r = [] := List.length_eq_zero_iff.1 (by rw [rl r hr]; have := h6 hA; omega)
        rw [this]; exact ⟨[], Sl.nil_⟩
      | some a' =>
        obtain ⟨_, h8⟩ := h7 a' hA
        obtain ⟨fp, hS, _⟩ := Sl.of (k := 1) (enc := encI) (w := W) (a := a') (l := row r)
          (fun h0 => by rw [rl r hr] at h0; have := World.block_lt_of_cell? _ _ (h8 0 (by omega)); rwa [add_block] at this)
          (fun i p hp j u hu => by
            have hlt : i < L r := by have := (List.getElem?_eq_some_iff.1 hp).1; rw [rl r hr] at this; exact this
            have g1 := h8 i (by omega)
            have hp' : (Z r)[i]? = some p := by simp only [row] at hp; rw [List.getElem?_take] at hp; simpa [hlt] using hp
            have : (Z r).getD i 0 = p := by simp [List.getD, hp']
            rw [this] at g1
            match j, hu with
            | 0, hu => simp only [encI, List.getElem?_cons_zero, Option.some.injEq] at hu; subst hu; rw [Go.Deep.add_add, Nat.mul_one]; exact g1
            | j + 1, hu => simp [encI] at hu)
        exact ⟨fp, hS⟩
    obtain ⟨fps, hfps⟩ := Go.Deep.choose_lt each
    let hs : List Hd := (List.range len).map fun r => (A r, L r, C r)
    have hlen : hs.length = len := by simp [hs]
    obtain ⟨fp0, hS, _⟩ := Sl.of (k := 1) (enc := encH) (w := W) (a := a) (l := hs)
      (fun h0 => by rw [hlen] at h0; have := World.block_lt_of_cell? _ _ (hx 0 (by omega)).1; rwa [add_block] at this)
      (fun i p hp j u hu => by
        have hlt : i < len := by have := (List.getElem?_eq_some_iff.1 hp).1; rw [hlen] at this; exact this
        have hp' : (A i, L i, C i) = p := by
          simp only [hs] at hp; rw [List.getElem?_map, List.getElem?_range hlt] at hp; simpa using hp
        subst hp'
        match j, hu with
        | 0, hu => simp only [encH, List.getElem?_cons_zero, Option.some.injEq] at hu; subst hu; rw [Go.Deep.add_add, Nat.mul_one]; exact (hx i (by omega)).1
        | j + 1, hu => simp [encH] at hu)
    let fp := fp0 ++ (List.range len).flatMap fps
    have flow : ∀ b ∈ fp, b < W.heap.size := fun b hb => by
      rcases List.mem_append.1 hb with hb | hb
      · exact hS.low b hb
      · obtain ⟨r, hr, hb⟩ := List.mem_flatMap.1 hb
        exact (hfps r (List.mem_range.1 hr)).low b hb
    refine ⟨some a, cap, (List.range len).map row, fp, by simpa using hv, ⟨flow, hs, hS.fpMore (fun b hb => List.mem_append_left _ hb) flow, by simp [hs], fun i l hil => ?_⟩, by simp; unfold maxLen at hm; omega, fun r hr => ?_⟩
    · rw [List.getElem?_map] at hil
      obtain ⟨i', hi', rfl⟩ := Option.map_eq_some_iff.1 hil
      obtain ⟨hlt, rfl⟩ := List.getElem?_eq_some_iff.1 hi'
      simp only [List.length_range] at hlt
      simp only [List.getElem_range]
      refine ⟨A i, C i, ?_, (hfps i hlt).fpMore (fun b hb => List.mem_append_right _ (List.mem_flatMap.2 ⟨i, List.mem_range.2 hlt, hb⟩)) flow, by rw [rl i hlt]; exact (hx i (by omega)).2.1⟩
      rw [rl i hlt]
      simp only [hs]; rw [List.getElem?_map, List.getElem?_range hlt]; rfl
    · obtain ⟨i, hi, rfl⟩ := List.mem_map.1 hr
      have hi := List.mem_range.1 hi
      obtain ⟨_, h2, h3, h4, h5, _⟩ := hx i (by omega)
      refine ⟨by rw [rl i hi]; unfold maxLen at h3; omega, fun p hp => in64 (h5 p (List.mem_of_mem_take hp))⟩
theorem open_ptsC {f0 f1 : Field} (ht : P.underlying t = some (.slice e)) (he : P.underlying e = some (.struct #[f0, f1]))
    (ce : P.cellsOf e = 2) (o0 : f0.offset = 0) (o1 : f1.offset = 1) (c0 : P.cellsOf f0.type = 1) (c1 : P.cellsOf f1.type = 1) (t0 : P.underlying f0.type = some (.int .i64)) (t1 : P.underlying f1.type = some (.int .i64))
    (h : DataW.trod enc P W 0 (fun _ => true) hd n t [v] = some x) :
    ∃ (A : Option Addr) (cap : Nat) (ps : List (Int × Int)) (fp : List Nat), v = .slice A ps.length cap ∧ Sl 2 encII W fp A ps ∧ ps.length ≤ cap ∧ (ps.length ≤ 9223372036854775807 ∧ ∀ p ∈ ps, In64 p.1 ∧ In64 p.2) := by
  obtain ⟨A, cap, ps, fp, hv, h1, h2, h3⟩ := open_pts ht he ce o0 o1 c0 c1 t0 t1 h
  refine ⟨A, cap, ps, fp, hv, h1, ?_, h2, h3⟩
  rcases Go.Deep.open_slice_pairs ht he ce o0 o1 c0 c1 h with ⟨hv', _⟩ | ⟨a, len, cap', m, n', V0, V1, D0, D1, P0, P1, hv', _, hl, hm, hmm, _, hx⟩
  · simp only [hv, List.cons.injEq, Value.slice.injEq, and_true] at hv'
    omega
  · simp only [hv, List.cons.injEq, Value.slice.injEq, and_true] at hv'
    omega
theorem open_rowsG {β : Type} {k : Nat} {encb : β → List Value} {Q : List β → Prop} (ht : P.underlying t = some (.slice e)) (ce : P.cellsOf e = 1)
    (hrow : ∀ n v x, DataW.trod enc P W 0 (fun _ => true) hd n e [v] = some x → ∃ (A : Option Addr) (cap : Nat) (l : List β) (fp : List Nat), v = .slice A l.length cap ∧ Sl k encb W fp A l ∧ l.length ≤ cap ∧ Q l)
    (h : DataW.trod enc P W 0 (fun _ => true) hd n t [v] = some x) :
    ∃ (A : Option Addr) (cap : Nat) (ll : List (List β)) (fp : List Nat), v = .slice A ll.length cap ∧ SlR k encb W fp A ll ∧ ll.length ≤ 9223372036854775807 ∧ ∀ r ∈ ll, Q r := by
  rcases Go.Deep.open_slice1 ht ce h with ⟨hv, _⟩ | ⟨a, len, cap, m, n', V, D, Pl, hv, _, hl, hm, hmm, _, hx⟩
  · exact ⟨none, 0, [], [], by simpa using hv, ⟨fun _ h => absurd h List.not_mem_nil, ⟨[], Sl.nil_, rfl, fun i l hl => by simp at hl⟩⟩, by simp, by simp⟩
  · have hlm : len ≤ m := by rw [hmm]; simpa using hl
    have each : ∀ i, i < len → ∃ y : Option Addr × Nat × List β × List Nat, V i = .slice y.1 y.2.2.1.length y.2.1 ∧ Sl k encb W y.2.2.2 y.1 y.2.2.1 ∧ y.2.2.1.length ≤ y.2.1 ∧ Q y.2.2.1 := fun i hi => by
      obtain ⟨A, cap, l, fp, h1, h2, h3, h4⟩ := hrow _ _ _ (hx i (by omega)).2
      exact ⟨(A, cap, l, fp), h1, h2, h3, h4⟩
    obtain ⟨y, hy⟩ := Go.Deep.choose_lt each
    let hs : List Hd := (List.range len).map fun r => ((y r).1, (y r).2.2.1.length, (y r).2.1)
    have hlen : hs.length = len := by simp [hs]
    obtain ⟨fp0, hS, _⟩ := Sl.of (k := 1) (enc := encH) (w := W) (a := a) (l := hs)
      (fun h0 => by rw [hlen] at h0; have := World.block_lt_of_cell? _ _ (hx 0 (by omega)).1; rwa [add_block] at this)
      (fun i p hp j u hu => by
        have hlt : i < len := by have := (List.getElem?_eq_some_iff.1 hp).1; rw [hlen] at this; exact this
        have hp' : ((y i).1, (y i).2.2.1.length, (y i).2.1) = p := by
          simp only [hs] at hp; rw [List.getElem?_map, List.getElem?_range hlt] at hp; simpa using hp
        subst hp'
        match j, hu with
        | 0, hu => simp only [encH, List.getElem?_cons_zero, Option.some.injEq] at hu; subst hu; rw [Go.Deep.add_add, Nat.mul_one, ← (hy i hlt).1]; exact (hx i (by omega)).1
        | j + 1, hu => simp [encH] at hu)
    let fp := fp0 ++ (List.range len).flatMap fun r => (y r).2.2.2
    have flow : ∀ b ∈ fp, b < W.heap.size := fun b hb => by
      rcases List.mem_append.1 hb with hb | hb
      · exact hS.low b hb
      · obtain ⟨r, hr, hb⟩ := List.mem_flatMap.1 hb
        exact (hy r (List.mem_range.1 hr)).2.1.low b hb
    refine ⟨some a, cap, (List.range len).map fun r => (y r).2.2.1, fp, by simpa using hv, ⟨flow, hs, hS.fpMore (fun b hb => List.mem_append_left _ hb) flow, by simp [hs], fun i l hil => ?_⟩, by simp; unfold maxLen at hm; omega, fun r hr => ?_⟩
    · rw [List.getElem?_map] at hil
      obtain ⟨i', hi', rfl⟩ := Option.map_eq_some_iff.1 hil
      obtain ⟨hlt, rfl⟩ := List.getElem?_eq_some_iff.1 hi'
      simp only [List.length_range] at hlt
      simp only [List.getElem_range]
      refine ⟨(y i).1, (y i).2.1, ?_, (hy i hlt).2.1.fpMore (fun b hb => List.mem_append_right _ (List.mem_flatMap.2 ⟨i, List.mem_range.2 hlt, hb⟩)) flow, (hy i hlt).2.2.1⟩
      simp only [hs]; rw [List.getElem?_map, List.getElem?_range hlt]; rfl
    · obtain ⟨i, hi, rfl⟩ := List.mem_map.1 hr
      exact (hy i (List.mem_range.1 hi)).2.2.2
end
end Go.Proofs.YtbfjekmefcpkmaaDoor
