/- What the listed tables give the walks: the table of the lowest bits. -/
import Derived.Test.YtbfjekmefcpkmaaDoorCtz
import Derived.Test.YtbfjekmefcpkmaaDoorProg
import Derived.Test.YtbfjekmefcpkmaaDoorRows
import Derived.ProofKit
import Derived.LaidMore
import Derived.LaidHandle
import Derived.OpenShut
import Derived.Stop.Joined
set_option linter.unusedSimpArgs false
set_option linter.unusedVariables false
namespace Go.Proofs.YtbfjekmefcpkmaaDoor
open Go.ChangeShapes Go.WideShapes Go.ChangeAt Go.RowKit

theorem g64 : Tryd.prog.globalNamed "math/bits.deBruijn64tab" = some 1 := by kernel_rfl
theorem t64 : (Tryd.prog.globals[1]?).map (·.type) = some 144 := by kernel_rfl
theorem tabD : (Rows.laid_math_bits_deBruijn64tab : DataW Unit) = .agg (tab64.map fun n => DataW.lit (.int .u8 n)) := by kernel_rfl
theorem tab_len : tab64.length = 64 := by kernel_rfl
theorem tab_of_laid {W : World} (h : laidMetH Tryd.prog [("math/bits.deBruijn32tab", Rows.laid_math_bits_deBruijn32tab), ("math/bits.deBruijn64tab", Rows.laid_math_bits_deBruijn64tab)] W) : Sl 1 encU W [1] (some ⟨1, 0, none⟩) tab64 := by
 rw [MakeChecks.laidMetH_plain _ _ _ (by kernel_rfl)] at h
 obtain ⟨ps, ⟨g0, t0, cs0, f0, p0, q0, hg0, ht0, hv0, hd0, ⟨g1, t1, cs1, f1, p1, q1, hg1, ht1, hv1, hd1, _, _⟩, _⟩, _, _⟩ := h
 obtain rfl := Option.some.inj (g64.symm.trans hg1)
 obtain rfl := Option.some.inj (t64.symm.trans ht1)
 obtain ⟨xs, m1, rfl, hx1, hlen, hn, hel⟩ := DataW.trod_array Tryd.underlying144 hd1
 have c1 : Tryd.prog.cellsOf 5 = 1 := by kernel_rfl
 rw [Prod.mk.injEq, tabD, DataW.agg.injEq] at hx1
 have hat : ∀ i x, tab64[i]? = some x → W.cell? ⟨1, i, none⟩ = some (.int .u8 x) := by
  intro i x hx
  have hi : i < 64 := by have := (List.getElem?_eq_some_iff.1 hx).1; rwa [tab_len] at this
  have he := hel i hi
  rw [c1, Nat.mul_one] at he
  have hxs : xs[i]? = some xs[i] := List.getElem?_eq_getElem (by omega)
  rw [hxs] at he
  obtain ⟨k, e1, e2, _⟩ := DataW.trod_int Tryd.underlying5 he
  have h2 := congrArg (·[i]?) hx1.1
  simp only [List.getElem?_map, hx, hxs, Option.map_some, e2, Option.some.injEq, DataW.lit.injEq, Lit.int.injEq, true_and] at h2
  subst h2
  have hc := World.var?_cell hg1 hv1 i
  rw [hc]
  have h3 := congrArg (·[0]?) e1
  simp only [List.getElem?_take, List.getElem?_drop, Nat.add_zero, List.getElem?_cons_zero] at h3
  simpa using h3
 refine ⟨fun b hb => ?_, fun _ => ⟨⟨1, 0, none⟩, rfl, by simp, fun i x hx j u hu => ?_⟩⟩
 ·rw [List.mem_singleton] at hb
  subst hb
  have h0 : (0 : Nat) < tab64.length := by rw [tab_len]; omega
  exact World.block_lt_of_cell? _ _ (hat 0 _ (List.getElem?_eq_getElem h0))
 ·match j, hu with
  | 0, hu =>
   simp only [encU, List.getElem?_cons_zero, Option.some.injEq] at hu
   subst hu
   have := hat i x hx
   have e : ((⟨1, 0, none⟩ : Addr).add (i * 1)).add 0 = ⟨1, i, none⟩ := by
    by_cases h0 : i = 0
    ·subst h0; simp [Addr.add]
    ·simp [Addr.add, h0]
   rw [e]; exact this
  | j + 1, hu => simp [encU] at hu
end Go.Proofs.YtbfjekmefcpkmaaDoor
