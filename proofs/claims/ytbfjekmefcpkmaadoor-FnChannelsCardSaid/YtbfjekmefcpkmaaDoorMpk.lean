/- Maps whose keys are structs or arrays; updates, deletions, lengths, and look-ups that tell whether they found. -/
import Derived.Test.YtbfjekmefcpkmaaDoorStr
import Derived.DeepKeys4
set_option linter.unusedSimpArgs false
set_option linter.unusedVariables false
set_option linter.unusedSectionVars false
namespace Go.Proofs.YtbfjekmefcpkmaaDoor
open Go.RowKit

/-! ### Keys -/
def ekII (p : Int × Int) : Value := .agg #[.int .i64 p.1, .int .i64 p.2]
def ekIII (p : Int × Int × Int) : Value := .agg #[.int .i64 p.1, .int .i64 p.2.1, .int .i64 p.2.2]
def ekIIII (p : Int × Int × Int × Int) : Value := .agg #[.int .i64 p.1, .int .i64 p.2.1, .int .i64 p.2.2.1, .int .i64 p.2.2.2]
def ekIIB (p : Int × Int × Bool) : Value := .agg #[.int .i64 p.1, .int .i64 p.2.1, .bool p.2.2]
def ekIIBIIB (p : Int × Int × Bool × Int × Int × Bool) : Value := .agg #[.int .i64 p.1, .int .i64 p.2.1, .bool p.2.2.1, .int .i64 p.2.2.2.1, .int .i64 p.2.2.2.2.1, .bool p.2.2.2.2.2]
def okII (p : Int × Int) : Bool := okI p.1 && okI p.2
def okIII (p : Int × Int × Int) : Bool := okI p.1 && (okI p.2.1 && okI p.2.2)
def okIIII (p : Int × Int × Int × Int) : Bool := okI p.1 && (okI p.2.1 && (okI p.2.2.1 && okI p.2.2.2))
def okIIB (p : Int × Int × Bool) : Bool := okI p.1 && okI p.2.1
def okIIBIIB (p : Int × Int × Bool × Int × Int × Bool) : Bool := okI p.1 && (okI p.2.1 && (okI p.2.2.2.1 && okI p.2.2.2.2.1))
theorem okII_t {p : Int × Int} (h : okII p = true) : okI p.1 = true ∧ okI p.2 = true := by simpa [okII, Bool.and_eq_true] using h
theorem injII (a b : Int × Int) (h : ekII a = ekII b) : a = b := by
 obtain ⟨a1, a2⟩ := a; obtain ⟨b1, b2⟩ := b
 simp [ekII] at h; simp [h]
section
variable {P : Program} {t e : TypeId} {d : Nat} {cs : List Value}
theorem kl_int {n : Int} (h : P.underlying t = some (.int .i64)) (hw : okI n = true) : P.keyLits (d + 1) t [.int .i64 n] = some [.int .i64 n] := by
 simp [Program.keyLits, h, okI_wf hw]
theorem kl_array2 {c0 c1 : List Value} {l0 l1 : List Lit} (h : P.underlying t = some (.array 2 e)) (hc : P.cellsOf t = cs.length)
  (h0 : (cs.drop (0 * P.cellsOf e)).take (P.cellsOf e) = c0) (h1 : (cs.drop (1 * P.cellsOf e)).take (P.cellsOf e) = c1) (g0 : P.keyLits d e c0 = some l0) (g1 : P.keyLits d e c1 = some l1) : P.keyLits (d + 1) t cs = some (l0 ++ (l1 ++ [])) := by
 simp only [Program.keyLits, h]
 rw [if_pos hc.symm]
 have hr : List.range 2 = [0, 1] := rfl
 simp only [hr, List.mapM_cons, List.mapM_nil, h0, h1, g0, g1]
 simp
theorem mkDeep {κ : Type} {ek : κ → Value} {ok : κ → Bool} {m n : Nat} (hl : laidOutB P = true) (hm : m + 1 ≤ 10000) (hrow : t < P.types.size) (hk : P.keyTypeAt m t = true)
  (hwide : (match P.underlying t with | some (.array _ _) | some (.struct _) => true | _ => false) = true) (hkt : P.keyType t = true) (hn : P.types.size + 1 = n)
  (hlit : ∀ k, ok k = true → (ek k).formed P t = true ∧ ∃ ls, P.keyLits n t (ek k).cells.toList = some ls) (hinj : ∀ a b, ek a = ek b → a = b) : MK P t ek ok := by
 refine ⟨Maps.Keyed.of_law (deep_law_laid hl hm hrow hk hwide), fun k hok => ?_, hinj⟩
 obtain ⟨hf, ls, hls⟩ := hlit k hok
 unfold keyOf
 split
 ·rw [hkt, hf, hn, hls]; exact ⟨_, rfl⟩
 ·rw [hkt, hf, hn, hls]; exact ⟨_, rfl⟩
 ·rename_i h1 h2
  exfalso
  split at hwide
  ·rename_i h; exact h1 _ _ h
  ·rename_i h; exact h2 _ h
  ·cases hwide
end
/-! ### Updates and deletions -/
section
variable {κ V : Type} [DecidableEq κ]
def mup (m : List (κ × V)) (k : κ) (x : V) : List (κ × V) := if (mget m k).isSome then mset m k x else m ++ [(k, x)]
def mdel (m : List (κ × V)) (k : κ) : List (κ × V) := m.filter fun p => !decide (p.1 = k)
theorem mup_mput (z : V) (m : List (κ × V)) (k : κ) (x : V) (hn : (m.map (·.1)).Nodup) : mup m k x = mput z m k x := by
 unfold mup mput ment
 cases h : mget m k with
 | some y => rfl
 | none =>
  simp only [Option.isSome_none, Bool.false_eq_true, if_false]
  have hk : ∀ p ∈ m, p.1 ≠ k := fun p hp e => by
   obtain ⟨j, hj, rfl⟩ := List.mem_iff_getElem.1 hp
   have := mget_at hn (j := j) (k := k) (x := m[j].2) (by rw [List.getElem?_eq_getElem hj, ← e])
   rw [h] at this; cases this
  unfold mset
  rw [List.map_append]
  have e1 : m.map (fun p => if p.1 = k then (k, x) else p) = m := by
   conv => rhs; rw [← List.map_id m]
   exact List.map_congr_left fun p hp => by simp [hk p hp]
  rw [e1]; simp
theorem nodup_mup {m : List (κ × V)} (hn : (m.map (·.1)).Nodup) (k : κ) (x : V) : ((mup m k x).map (·.1)).Nodup := by
 rw [mup_mput x m k x hn]; unfold mput; rw [keys_mset]; exact nodup_ment hn k
variable {okk : κ → Bool} {ek : κ → Value} {ev : V → Value} {w w' : World} {b : Nat} {m : List (κ × V)} {k : κ} {P : Program} {T K e : TypeId}
theorem es_set {es : Array MapEntry} (he : es.toList.map kv = m.map (fun p => (ek p.1, ev p.2))) {j : Nat} {e0 : MapEntry} {x0 x : V} (h2 : es[j]? = some e0) (h3 : e0.key = ek k) (g1 : m[j]? = some (k, x0)) (hnd : (m.map (·.1)).Nodup) :
  (es.modify j fun e => { e with key := ek k, val := ev x }).toList.map kv = (mset m k x).map (fun p => (ek p.1, ev p.2)) ∧ (es.modify j fun e => { e with key := ek k, val := ev x }).toList.map (·.born) = es.toList.map (·.born) := by
 constructor
 ·rw [Array.toList_modify]
  refine List.ext_getElem? fun i => ?_
  have hi := congrArg (fun l => l[i]?) he
  simp only [List.getElem?_map] at hi
  unfold mset
  rw [List.getElem?_map, List.getElem?_map, List.getElem?_map, List.getElem?_modify]
  by_cases hij : j = i
  ·subst hij
   rw [g1, Array.getElem?_toList, h2]
   simp [kv]
  ·simp only [hij, if_false, id]
   cases hm : m[i]? with
   | none => rw [hm] at hi; simpa [Option.map_id'] using hi
   | some p =>
    have hne : p.1 ≠ k := fun ep => hij (by
     have a1 : (m.map (·.1))[j]? = some k := by rw [List.getElem?_map, g1]; rfl
     have a2 : (m.map (·.1))[i]? = some k := by rw [List.getElem?_map, hm, ← ep]; rfl
     obtain ⟨hl1, e1⟩ := List.getElem?_eq_some_iff.1 a1
     obtain ⟨hl2, e2⟩ := List.getElem?_eq_some_iff.1 a2
     exact (List.getElem_inj hnd).1 (e1.trans e2.symm))
    rw [hm] at hi
    simpa [hne, Option.map_id'] using hi
 ·rw [Array.toList_modify]
  refine List.ext_getElem? fun i => ?_
  rw [List.getElem?_map, List.getElem?_map, List.getElem?_modify]
  by_cases hij : j = i
  ·simp only [hij, if_true]; cases es.toList[i]? <;> rfl
  ·simp [hij]
theorem Mp.update (h : Mp okk ek ev w b m) (hK : MK P K ek okk) (hT : P.underlying T = some (.map K e)) (hk : okk k = true) (x : V) :
  ∃ w', (Instr.mapUpdate T (.map (some b)) (ek k) (ev x)).run P w = .ok () w' ∧ Mp okk ek ev w' b (mup m k x) ∧ Chg [b] w w' := by
 obtain ⟨es, c, hb, he, hn, hc⟩ := h.is
 obtain ⟨l, hl⟩ := hK.lit k hk
 rcases h.find hK hk hb he with ⟨h1, h2⟩ | ⟨j, e0, x0, h1, h2, h3, h4, h5, h6⟩
 ·refine ⟨setM w b (es.push ⟨ek k, ev x, c⟩) (c + 1), ?_, ?_, setM_chg _ _⟩
  ·simp [Instr.mapUpdate, run_underlying hT, MapKept.run_getObj_map hb, hK.keyed.check w _ hl, h1, MapKept.run_setObj_map _ hb, Result.andThen, setM]
  ·have e1 : mup m k x = m ++ [(k, x)] := by unfold mup; rw [h2]; rfl
   refine ⟨⟨_, _, setM_at h.lt, ?_, ?_, ?_⟩, nodup_mup h.nd k x, ?_⟩
   ·rw [e1]; simp [he, kv]
   ·rw [Array.toList_push, List.map_append, List.nodup_append]
    refine ⟨hn, by simp, fun a ha d hd e2 => ?_⟩
    simp only [List.map_cons, List.map_nil, List.mem_singleton] at hd
    obtain ⟨q, hq, rfl⟩ := List.mem_map.1 ha
    have := hc q hq; omega
   ·intro q hq
    rw [Array.toList_push, List.mem_append] at hq
    rcases hq with hq | hq
    ·have := hc q hq; omega
    ·simp only [List.mem_singleton] at hq; subst hq; exact Nat.lt_succ_self c
   ·rw [e1]; intro p hp
    rcases List.mem_append.1 hp with hp | hp
    ·exact h.ok p hp
    ·simp only [List.mem_singleton] at hp; subst hp; exact hk
 ·have e1 : mup m k x = mset m k x := by unfold mup; rw [h6]; rfl
  obtain ⟨s1, s2⟩ := es_set (x := x) he h2 h3 h5 h.nd
  refine ⟨setM w b (es.modify j fun e => { e with key := ek k, val := ev x }) c, ?_, ?_, setM_chg _ _⟩
  ·simp [Instr.mapUpdate, run_underlying hT, MapKept.run_getObj_map hb, hK.keyed.check w _ hl, h1, h2, h3, hK.keyed.stays w hl, MapKept.run_setObj_map _ hb, Result.andThen, setM]
  ·rw [e1]
   refine ⟨⟨_, _, setM_at h.lt, s1, by rw [s2]; exact hn, fun q hq => ?_⟩, by rw [keys_mset]; exact h.nd, fun p hp => ?_⟩
   ·have : q.born ∈ (es.modify j fun e => { e with key := ek k, val := ev x }).toList.map (·.born) := List.mem_map.2 ⟨q, hq, rfl⟩
    rw [s2] at this
    obtain ⟨q', hq', e'⟩ := List.mem_map.1 this
    rw [← e']; exact hc q' hq'
   ·have : p.1 ∈ (mset m k x).map (·.1) := List.mem_map.2 ⟨p, hp, rfl⟩
    rw [keys_mset] at this
    obtain ⟨p', hp', e'⟩ := List.mem_map.1 this
    rw [← e']; exact h.ok p' hp'
theorem Mp.len (h : Mp okk ek ev w b m) (hT : P.underlying T = some (.map K e)) (ty : TypeId) : (Builtin.len_ #[T] ty #[.map (some b)]).run P w = .ok (.int .i64 (m.length : Int)) w := by
 obtain ⟨es, c, hb, he, _, _⟩ := h.is
 have hl := ent_len he
 simp [Builtin.len_, run_underlying hT, MapKept.run_getObj_map hb, Result.andThen, goInt, hl]
theorem Mp.lookOk {z : V} (h : Mp okk ek ev w b m) (hK : MK P K ek okk) (hT : MpTy P T K e (ev z)) (hk : okk k = true) : (Instr.lookup T (.map (some b)) (ek k) true).run P w = .ok (.tuple #[ev ((mget m k).getD z), .bool (mget m k).isSome]) w := by
 obtain ⟨es, c, hb, he, _, _⟩ := h.is
 obtain ⟨l, hl⟩ := hK.lit k hk
 have hz := pureRun_run hT.zero w
 rcases h.find hK hk hb he with ⟨h1, h2⟩ | ⟨j, e, x, h1, h2, h3, h4, h5, h6⟩
 ·simp [Instr.lookup, run_underlying hT.und, MapKept.run_getObj_map hb, hK.keyed.check w _ hl, h1, h2, hz, Result.andThen]
 ·simp [Instr.lookup, run_underlying hT.und, MapKept.run_getObj_map hb, hK.keyed.check w _ hl, h1, h6, h4, Result.andThen]
end
def mupI (ops : Array Oper) (N : Nat) (E : Env) (a : Act) (i : Nat) : Option (TypeId × Value × Value × Value) :=
 match atI ops N E a i with
 | some (none, .mapUpdate T m k v) => some (T, evE E a m, evE E a k, evE E a v)
 | _ => none
def lookOkI (ops : Array Oper) (N : Nat) (E : Env) (a : Act) (i : Nat) : Option (Nat × TypeId × Value × Value) :=
 match atI ops N E a i with
 | some (some d, .lookup T x k true) => some (d, T, evE E a x, evE E a k)
 | _ => none
def builtI (ops : Array Oper) (N : Nat) (E : Env) (a : Act) (i : Nat) : Option (Nat × Builtin × List Value × List TypeId) :=
 match atI ops N E a i with
 | some (some d, .call ⟨.builtin b, args, tys⟩) => some (d, b, args.toList.map (evE E a), tys.toList)
 | _ => none
section
variable {κ V : Type} [DecidableEq κ] {okk : κ → Bool} {ek : κ → Value} {ev : V → Value} {b : Nat} {m : List (κ × V)} {k : κ} {z : V}
variable {P : Program} {ops : Array Oper} {Q : Exit → Act → World → Prop} {N i : Nat} {E : Env} {a : Act} {w ws : World} {Sg dn : List Nat}
theorem wS_mup {T K e : Nat} {x : V} {v kvv : Value} (ho : mupI ops N E a i = some (T, .map (some b), kvv, v)) (hkv : kvv = ek k) (hv : v = ev x) (hK : MK P K ek okk) (hT : MpTy P T K e (ev z)) (h : Mp okk ek ev w b m) (hk : okk k = true)
  (kk : ∀ w', Mp okk ek ev w' b (mup m k x) → Chg [b] w w' → wS P ops Q N (i + 1) E a w') : wS P ops Q N i E a w := by
 subst hv; subst hkv
 unfold mupI at ho
 split at ho
 ·rename_i T' y q r hat
  simp only [Option.some.injEq, Prod.mk.injEq] at ho
  obtain ⟨rfl, hy, hq, hr⟩ := ho
  obtain ⟨h1, h2, h3⟩ := atI_spec hat
  obtain ⟨w', hrun, hM, hc⟩ := h.update hK hT.und hk x
  refine wS_act (w' := w') h1 h2 (fun o ho => ?_) (kk w' hM hc)
  simp [execOp, ho, hy, hq, hr, hrun]
 ·cases ho
theorem wS_lookOk {d T K e : Nat} {kvv : Value} (ho : lookOkI ops N E a i = some (d, T, .map (some b), kvv)) (hkv : kvv = ek k) (hK : MK P K ek okk) (hT : MpTy P T K e (ev z)) (h : Mp okk ek ev w b m) (hk : okk k = true)
  (kk : wS P ops Q N (i + 1) ((d, .tuple #[ev ((mget m k).getD z), .bool (mget m k).isSome]) :: E) a w) : wS P ops Q N i E a w := by
 subst hkv
 unfold lookOkI at ho
 split at ho
 ·rename_i d' T' x q hat
  simp only [Option.some.injEq, Prod.mk.injEq] at ho
  obtain ⟨rfl, rfl, hx, hq⟩ := ho
  obtain ⟨h1, h2, h3⟩ := atI_spec hat
  refine wS_val (w' := w) h1 h2 (h3 _ rfl) (fun o ho => ?_) kk
  simp [execOp, ho, hx, hq, h.lookOk hK hT hk]
 ·cases ho
theorem wS_mlen {d T K e : Nat} (ho : builtI ops N E a i = some (d, .len, [.map (some b)], [T])) (hT : MpTy P T K e (ev z)) (h : Mp okk ek ev w b m)
  (kk : wS P ops Q N (i + 1) ((d, .int .i64 (m.length : Int)) :: E) a w) : wS P ops Q N i E a w := by
 unfold builtI at ho
 split at ho
 ·rename_i d' b' args tys hat
  simp only [Option.some.injEq, Prod.mk.injEq] at ho
  obtain ⟨rfl, rfl, hx, hq⟩ := ho
  obtain ⟨h1, h2, h3⟩ := atI_spec hat
  have ha : args.map (evE E a) = #[.map (some b)] := by
   apply Array.ext'; rw [Array.toList_map]; exact hx
  have ht : tys = #[T] := by apply Array.ext'; exact hq
  subst ht
  refine wS_val (w' := w) h1 h2 (h3 _ rfl) (fun o ho => ?_) kk
  have hl := fun ty => h.len hT.und ty
  simp [execOp, ho, resolve, invoke, builtin, ha, hl]
 ·cases ho
end
end Go.Proofs.YtbfjekmefcpkmaaDoor
