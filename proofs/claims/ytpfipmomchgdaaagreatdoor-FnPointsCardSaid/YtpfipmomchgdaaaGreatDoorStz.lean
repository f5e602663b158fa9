/- Strings as elements of slices; strings put together; what the library makes of strings. -/
import Derived.Test.YtpfipmomchgdaaaGreatDoorGte
import Derived.Lib.ItoaNum
import Derived.Lib.ParseIntB
import Derived.Lib.Join
import Derived.Lib.Split
import Derived.Lib.CutLaws
set_option linter.unusedSimpArgs false
set_option linter.unusedVariables false
set_option linter.unusedSectionVars false
set_option linter.unusedSectionVars false
namespace Go.Proofs.YtpfipmomchgdaaaGreatDoor
open Go.RowKit
variable [Flag]

def encT (s : ByteArray) : List Value := [.string s]
theorem encT_ok : EncOk 1 encT := ⟨by omega, fun _ => rfl, fun x u h => by simp only [encT, List.mem_cons, List.not_mem_nil, or_false] at h; subst h; rfl⟩
def sadC (x y : ByteArray) : Option Unit := chk (decide (x.size + y.size ≤ 9223372036854775807))
theorem sadE {x y : ByteArray} {u : Unit} (h : sadC x y = some u) : x.size + y.size ≤ 9223372036854775807 := of_decide_eq_true (chkE h)
def sadI (ops : Array Oper) (N : Nat) (E : Env) (a : Act) (i : Nat) : Option (Nat × Value × Value) :=
  match atI ops N E a i with
  | some (some d, .binOp .add _ x y _) => some (d, evE E a x, evE E a y)
  | _ => none
section
variable {P : Program} {ops : Array Oper} {Q : Exit → Act → World → Prop} {N i : Nat} {E : Env} {a : Act} {w ws : World} {Sg dn : List Nat}
theorem wS_sadd {d : Nat} {x y : ByteArray} (ho : sadI ops N E a i = some (d, .string x, .string y)) (hy : x.size + y.size ≤ 9223372036854775807) (k : wS P ops Q N (i + 1) ((d, .string (x ++ y)) :: E) a w) : wS P ops Q N i E a w := by
  unfold sadI at ho
  split at ho
  · rename_i d' t' x' y' s' hat
    simp only [Option.some.injEq, Prod.mk.injEq] at ho
    obtain ⟨rfl, hx, hy'⟩ := ho
    obtain ⟨g1, g2, g3⟩ := atI_spec hat
    have hn : ¬ ((9223372036854775807 : Int) < (x.size : Int) + (y.size : Int)) := by omega
    refine wS_val g1 g2 (g3 _ rfl) (fun o ho => pureRun_run ?_ w) k
    simp only [execOp, ho, hx, hy']
    simp [eqGuard, binOp, Op.stringOp, hn, pureRun, Bind.bind, Sem.bind, Pure.pure]
  · cases ho
theorem wH_sadd {d : Nat} {x y : ByteArray} (hns : Region.noSelect ops = true) (hQ : QCalm Q) (hf : freeB ops dn i = true) (ho : sadI ops N E a i = some (d, .string x, .string y)) (hy : x.size + y.size ≤ 9223372036854775807)
    (kk : wH P ops Q Sg ws N (i :: dn) ((d, .string (x ++ y)) :: E) a w) : wH P ops Q Sg ws N dn E a w := by
  unfold sadI at ho
  split at ho
  · rename_i d' t' x' y' s' hat
    simp only [Option.some.injEq, Prod.mk.injEq] at ho
    obtain ⟨rfl, hx, hy'⟩ := ho
    have hn : ¬ ((9223372036854775807 : Int) < (x.size : Int) + (y.size : Int)) := by omega
    refine wH_val hns hQ hf hat (fun W hW o ho => pureRun_run ?_ W) kk
    simp only [execOp, ho, hx, hy']
    simp [eqGuard, binOp, Op.stringOp, hn, pureRun, Bind.bind, Sem.bind, Pure.pure]
  · cases ho
end

/-- A part of a string: from lo (or its beginning) to hi (or its end). -/
def sslC (n lo hi : Int) : Option Unit := chk (decide (0 ≤ lo) && (decide (lo ≤ hi) && decide (hi ≤ n)))
theorem sslE {n lo hi : Int} {u : Unit} (h : sslC n lo hi = some u) : 0 ≤ lo ∧ lo ≤ hi ∧ hi ≤ n := by
  have := chkE h
  simp only [Bool.and_eq_true, decide_eq_true_eq] at this
  exact this
def ssl (s : ByteArray) (lo hi : Int) : ByteArray := s.extract lo.toNat hi.toNat
def sslI (ops : Array Oper) (N : Nat) (E : Env) (a : Act) (i : Nat) : Option (Nat × TypeId × Value × Option Value × Option Value) :=
  match atI ops N E a i with
  | some (some d, .slice T x lo hi none) => some (d, T, evE E a x, lo.map (evE E a), hi.map (evE E a))
  | _ => none
section
variable {P : Program} {ops : Array Oper} {Q : Exit → Act → World → Prop} {N i : Nat} {E : Env} {a : Act} {w ws : World} {Sg dn : List Nat}
theorem run_ssl {T : Nat} (hT : P.underlying T = some .string) (s : ByteArray) (lo hi : Option Int) (h : 0 ≤ lo.getD 0 ∧ lo.getD 0 ≤ hi.getD s.size ∧ hi.getD s.size ≤ s.size) (w : World) :
    (Instr.slice T (.string s) (lo.map (.int .i64)) (hi.map (.int .i64)) none).run P w = .ok (.string (ssl s (lo.getD 0) (hi.getD s.size))) w := by
  obtain ⟨h0, h1, h2⟩ := h
  cases lo with
  | none =>
    cases hi with
    | none => simp [Instr.slice, Instr.sliceBounds, run_underlying hT, ssl]
    | some v =>
      simp only [Option.getD_some, Option.getD_none] at h0 h1 h2
      simp [Instr.slice, Instr.sliceBounds, Instr.sliceBound, asIntOf, run_underlying hT, ssl, h1, h2]
  | some u =>
    simp only [Option.getD_some] at h0 h1
    cases hi with
    | none =>
      simp only [Option.getD_none] at h1
      simp [Instr.slice, Instr.sliceBounds, Instr.sliceBound, asIntOf, run_underlying hT, ssl, h0, h1]
    | some v =>
      simp only [Option.getD_some] at h1 h2
      have h3 : 0 ≤ v := Int.le_trans h0 h1
      have h4 : u ≤ (v.toNat : Int) := by omega
      simp [Instr.slice, Instr.sliceBounds, Instr.sliceBound, asIntOf, run_underlying hT, ssl, h0, h2, h3, h4]
      omega
theorem wS_ssl {d T : Nat} {s : ByteArray} (lo hi : Option Int) (ho : sslI ops N E a i = some (d, T, .string s, lo.map (.int .i64), hi.map (.int .i64))) (hT : P.underlying T = some .string) (h : 0 ≤ lo.getD 0 ∧ lo.getD 0 ≤ hi.getD s.size ∧ hi.getD s.size ≤ s.size)
    (k : wS P ops Q N (i + 1) ((d, .string (ssl s (lo.getD 0) (hi.getD s.size))) :: E) a w) : wS P ops Q N i E a w := by
  unfold sslI at ho
  split at ho
  · rename_i d' T' x lo' hi' hat
    simp only [Option.some.injEq, Prod.mk.injEq] at ho
    obtain ⟨rfl, rfl, hx, hlo, hhi⟩ := ho
    obtain ⟨g1, g2, g3⟩ := atI_spec hat
    refine wS_val (w' := w) g1 g2 (g3 _ rfl) (fun o ho => ?_) k
    have hr := run_ssl hT s lo hi h w
    simp [execOp, ho, hx, hlo, hhi, Instr.sliceAt, run_underlying hT, hr]
  · cases ho
theorem wH_ssl {d T : Nat} {s : ByteArray} (lo hi : Option Int) (hns : Region.noSelect ops = true) (hQ : QCalm Q) (hf : freeB ops dn i = true) (ho : sslI ops N E a i = some (d, T, .string s, lo.map (.int .i64), hi.map (.int .i64))) (hT : P.underlying T = some .string) (h : 0 ≤ lo.getD 0 ∧ lo.getD 0 ≤ hi.getD s.size ∧ hi.getD s.size ≤ s.size)
    (kk : wH P ops Q Sg ws N (i :: dn) ((d, .string (ssl s (lo.getD 0) (hi.getD s.size))) :: E) a w) : wH P ops Q Sg ws N dn E a w := by
  unfold sslI at ho
  split at ho
  · rename_i d' T' x lo' hi' hat
    simp only [Option.some.injEq, Prod.mk.injEq] at ho
    obtain ⟨rfl, rfl, hx, hlo, hhi⟩ := ho
    refine wH_val hns hQ hf hat (fun W hW o ho => ?_) kk
    have hr := run_ssl hT s lo hi h W
    simp [execOp, ho, hx, hlo, hhi, Instr.sliceAt, run_underlying hT, hr]
  · cases ho
end
/-! ### What the library answers -/
def m_strconv_FormatInt (n b : Int) : Option ByteArray := if 0 ≤ n ∧ n < 100 ∧ b = 10 then some ⟨(Lib.decDigits n.toNat).toArray⟩ else none
def m_strconv_ParseInt (s : ByteArray) (b k : Int) : Option Int :=
  if b = 10 ∧ k = 64 ∧ s.size ≤ 1000 then (match Lib.parseIntB 64 s.data.toList with | .ok v => some v | _ => none) else none
def m_internal_stringslite_Index (s sep : ByteArray) : Option Int := if sep.size = 1 then some (Lib.indexB s sep) else none
def m_strings_genSplit (s sep : ByteArray) (sv n : Int) : Option (List ByteArray) :=
  if sep.size = 1 ∧ s.size ≤ 1000 ∧ sv = 0 ∧ n = -1 then some (Lib.splitB sep 0 (Lib.countB s sep) s) else none
def m_strings_Join (l : List ByteArray) (sep : ByteArray) : Option ByteArray :=
  if l.length ≤ 1000 ∧ (Lib.join (l.map (·.data.toList)) sep.data.toList).length ≤ 100000 then some ⟨(Lib.join (l.map (·.data.toList)) sep.data.toList).toArray⟩ else none
/-- From here on the count of draws is out of sight. -/
instance laxF : Flag := ⟨false⟩
end Go.Proofs.YtpfipmomchgdaaaGreatDoor
