/- Strings and decimals: the contracts that the walks use. -/
import Derived.Test.YtpfipmomchgdaaaGreatDoorStrL
set_option linter.unusedSimpArgs false
set_option linter.unusedVariables false
namespace Go.Proofs.YtpfipmomchgdaaaGreatDoor
open Go.RowKit Go.Shelf

theorem c_strconv_FormatInt {w0 : World} {p0 p1 : Int} {r : ByteArray} (hm : m_strconv_FormatInt p0 p1 = some r) :
    Calls Tryz.prog 50 #[.int .i64 (p0), .int .i64 (p1)] w0 fun e w' => e = .returned (.string (r)) ∧ Chg [] w0 w' := by
  unfold m_strconv_FormatInt at hm
  split at hm
  · rename_i h
    obtain ⟨h0, h1, rfl⟩ := h
    cases hm
    obtain ⟨n, rfl⟩ := Int.eq_ofNat_of_zero_le h0
    refine (Any.strconv_FormatInt_10_small fmtInt n (by omega) w0).mono ?_
    rintro e w' ⟨rfl, rfl⟩
    exact ⟨rfl, Chg.refl _ _⟩
  · cases hm
theorem chg_bytes (w : World) (t : TypeId) (s : ByteArray) : Chg [] w (Lib.bytesWorld w t s) :=
  ⟨rfl, rfl, rfl, by simp [Lib.bytesWorld, World.freeze], fun i hi _ => by
    have h1 := Below.heap_alloc w.drew (.cells (Lib.bytesCells w t s) t) i hi
    have hm : ∀ (h : Array Obj) (n : Nat) (g : Obj → Obj), i ≠ n → (h.modify n g)[i]? = h[i]? := fun h n g hne => by rw [Array.getElem?_modify, if_neg (Ne.symm hne)]
    exact (hm _ _ _ (Nat.ne_of_lt hi)).trans h1, Nat.le_refl 0⟩
theorem c_strconv_ParseInt {w0 : World} {p0 : ByteArray} {p1 p2 : Int} {r : Int} (hm : m_strconv_ParseInt p0 p1 p2 = some r) :
    Calls Tryz.prog 42 #[.string (p0), .int .i64 (p1), .int .i64 (p2)] w0 fun e w' => e = .returned (.tuple #[.int .i64 (r), .nilIface]) ∧ Chg [] w0 w' := by
  unfold m_strconv_ParseInt at hm
  split at hm
  · rename_i h
    obtain ⟨rfl, rfl, hs⟩ := h
    cases hv : Lib.parseIntB 64 p0.data.toList with
    | ok v =>
      rw [hv] at hm
      cases hm
      refine (Any.strconv_ParseInt_10_at64_ok parInt p0 (by omega) _ hv w0).mono ?_
      rintro e w' ⟨rfl, hw⟩
      refine ⟨rfl, ?_⟩
      rcases hw with rfl | ⟨t, rfl⟩
      · exact Chg.refl _ _
      · exact chg_bytes _ _ _
    | _ => rw [hv] at hm; cases hm
  · cases hm
theorem c_internal_stringslite_Index {w0 : World} {p0 p1 : ByteArray} {r : Int} (hm : m_internal_stringslite_Index p0 p1 = some r) :
    Calls Tryz.prog 53 #[.string (p0), .string (p1)] w0 fun e w' => e = .returned (.int .i64 (r)) ∧ Chg [] w0 w' := by
  unfold m_internal_stringslite_Index at hm
  split at hm
  · rename_i h
    cases hm
    obtain ⟨c, rfl⟩ := Lib.one_byte p1 h
    refine (Any.stringslite_Index_one idxOne p0 c w0).mono ?_
    rintro e w' ⟨rfl, rfl⟩
    refine ⟨?_, Chg.refl _ _⟩
    rw [← Lib.index_one]
  · cases hm
theorem c_strings_genSplit {w0 : World} {p0 p1 : ByteArray} {p2 p3 : Int} {r : List ByteArray} (hm : m_strings_genSplit p0 p1 p2 p3 = some r) :
    Calls Tryz.prog 52 #[.string (p0), .string (p1), .int .i64 (p2), .int .i64 (p3)] w0 fun e w' => ∃ A100 cap100 fp100, e = .returned (.slice A100 (r).length cap100) ∧ Ow 1 encT 9 w' fp100 A100 cap100 r ∧ (∀ x ∈ fp100, w0.heap.size ≤ x) ∧ Chg [] w0 w' := by
  unfold m_strings_genSplit at hm
  split at hm
  · rename_i h
    obtain ⟨h1, hs, rfl, rfl⟩ := h
    cases hm
    obtain ⟨c, rfl⟩ := Lib.one_byte p1 h1
    have hle := Lib.countB_le ⟨#[c]⟩ (Nat.le_refl 1) p0.size p0 (Nat.le_refl _)
    have hlen := Lib.splitB_all ⟨#[c]⟩ (Nat.le_refl 1) 0 _ p0 rfl
    have g := Any.strings_genSplit_core genSpl (by kernel_rfl) p0 ⟨#[c]⟩ 0 (-1) (Lib.countB p0 ⟨#[c]⟩ + 1) w0 (by omega) (Nat.le_refl 1) (Nat.zero_le _)
      (fun x C _ => (Any.strings_Index_one { genSpl with } x c _).mono fun e w' ⟨he, hw⟩ => ⟨by rw [he, ← Lib.index_one], hw⟩)
      ((Any.strings_Count_one { genSpl with } p0 c w0).mono fun e w' ⟨he, hw⟩ => ⟨by rw [he]; show _ = Ending.returned (Value.int .i64 ((Lib.count p0.data.toList [c] : Nat) : Int)); rw [Lib.count_one]; rfl, hw⟩)
      (by decide) (by decide) (by rw [if_pos (by decide)]; omega)
    rw [Nat.add_sub_cancel] at g
    rw [hlen] at g
    refine g.mono ?_
    rintro e w' ⟨rfl, rfl⟩
    have e2 : Lib.cellsOf (Lib.splitB ⟨#[c]⟩ 0 (Lib.countB p0 ⟨#[c]⟩) p0) (Lib.countB p0 ⟨#[c]⟩ + 1) = ((Lib.splitB ⟨#[c]⟩ 0 (Lib.countB p0 ⟨#[c]⟩) p0).map Value.string).toArray := by rw [← hlen]; exact Lib.cellsOf_full _
    rw [e2]
    refine ⟨some ⟨w0.heap.size, 0, none⟩, (Lib.splitB ⟨#[c]⟩ 0 (Lib.countB p0 ⟨#[c]⟩) p0).length, [w0.heap.size], by rw [hlen], ?_, by simp, Chg.alloc _ _⟩
    refine Ow.ofNew encT_ok (Cl.new w0 9 _) ?_ (by unfold maxLen; omega)
    exact List.map_eq_flatMap
  · cases hm
theorem c_strings_Join {w0 : World} {l0 : List (ByteArray)} {A0 : Option Addr} {cap0 : Nat} {fp0 : List Nat} {p1 : ByteArray} {r : ByteArray} (hm : m_strings_Join l0 p1 = some r) (F0 : Sl 1 encT w0 fp0 A0 l0) (K0 : (l0).length ≤ cap0) :
    Calls Tryz.prog 51 #[.slice A0 (l0).length cap0, .string (p1)] w0 fun e w' => e = .returned (.string (r)) ∧ Chg [] w0 w' := by
  unfold m_strings_Join at hm
  split at hm
  · rename_i h
    obtain ⟨h1, h2⟩ := h
    cases hm
    cases l0 with
    | nil =>
      refine (Any.strings_Join_none strJoin joinX A0 cap0 p1 w0).mono ?_
      rintro e w' ⟨rfl, rfl⟩
      exact ⟨rfl, Chg.refl _ _⟩
    | cons x l =>
      obtain ⟨⟨bk, o, sp⟩, rfl, hb, hc⟩ := F0.cells (by simp)
      have hsp : sp = none := by
        have := hc 0 x rfl 0 (.string x) rfl
        unfold World.cell? at this
        cases sp with
        | none => rfl
        | some q =>
          split at this
          · simp [Addr.add] at this
          · cases this
      subst hsp
      refine (Any.strings_Join strJoin joinX bk o cap0 (x :: l) p1 w0 (fun j y hj => ?_) (F0.low _ hb) (by omega) K0 (by omega)).mono ?_
      · have := hc j y hj 0 (.string y) rfl
        by_cases h0 : j = 0
        · subst h0; simpa [Addr.add] using this
        · simpa [Addr.add, h0] using this
      · rintro e w' ⟨rfl, hw⟩
        exact ⟨rfl, hw.os, hw.tape, hw.output, hw.size, fun i hi _ => hw.block i hi, Nat.le_refl 0⟩
  · cases hm
end Go.Proofs.YtpfipmomchgdaaaGreatDoor
