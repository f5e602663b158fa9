/- Short names for the printed walks. -/
import Derived.Test.YtbfjekmefcpkmaaDoorCtz
import Derived.Test.YtbfjekmefcpkmaaDoorEqs
set_option linter.unusedSimpArgs false
set_option linter.unusedVariables false
namespace Go.Proofs.YtbfjekmefcpkmaaDoor
open Go.RowKit

abbrev pt (b : Nat) : Value := .pointer (some ⟨b, 0, none⟩)
abbrev ii (x : Int) : Value := .int .i64 x
abbrev vl {α : Type} (A : Option Addr) (l : List α) (c : Nat) : Value := .slice A l.length c
abbrev ad (b : Nat) : Option Addr := some ⟨b, 0, none⟩
abbrev S1 := Sl 1 encI
abbrev O1 := Ow 1 encI
theorem bl {a b : Nat} (h : Nat.ble a b = true) : a ≤ b := Nat.le_of_ble_eq_true h
class QC (Q : Exit → Act → World → Prop) : Prop where
 c : QCalm Q
section
variable {P : Program} {ops : Array Oper} {Q : Exit → Act → World → Prop} {N i : Nat} {E : Env} {a : Act} {w ws : World} {Sg dn : List Nat}
instance {fn : Func} {R : Ending → World → Prop} : QC (bodyPost P fn R) := ⟨qZ⟩
instance {K : Act → World → Prop} [h : QC Q] : QC (Exit.then K Q) := ⟨qT h.c⟩
instance {id : Nat} [h : QC Q] : QC (Exit.inBlock id Q) := ⟨qB h.c⟩
instance {S R : Type} {step : S → Option (Ctl S R)} {Rep : S → Act → World → Prop} {res : R} {s : S} [h : QC Q] : QC (LoopPost step Rep res Q s) := ⟨qL h.c⟩
instance {Rep : Nat → Act → World → Prop} {n : Nat} [h : QC Q] : QC (LoopAny Rep Q n) := ⟨qLA h.c⟩
theorem wP (n : Nat) (news : Env) (k : wS P ops Q N (i + n) (news ++ E) a w) (h : runP P ops N a ((ops.toList.drop i).take n) E = some (news ++ E) := by kernel_rfl) : wS P ops Q N i E a w := wS_pure n news h k
theorem wE (k : eX .normal Q N E a w) (h : ops.size = i := by rfl) : wS P ops Q N i E a w := wS_end h k
theorem wN {y : Code} (k : cW P y Q N E a w) (h : ops.size = i := by rfl) : wS P ops (Exit.then (y.wp P Q) Q) N i E a w := wS_end h (eX_then k)
theorem sR {id : Nat} {y : Code} (k : wS P ops (Exit.then (y.wp P Q) Q) N 0 E a w) : cW P (.seq (.region id ops false) y) Q N E a w := cW_seq (cW_region k)
theorem cC {c : Operand} {x y : Code} (t : Bool) (kt : t = true → cW P x Q N E a w) (kf : t = false → cW P y Q N E a w) (hc : evE E a c = .bool t := by kernel_rfl) : cW P (.cond c x y) Q N E a w := cW_cond hc kt kf
theorem cCt {c : Operand} {x y : Code} (k : cW P x Q N E a w) (hc : evE E a c = .bool true := by kernel_rfl) : cW P (.cond c x y) Q N E a w := cW_cond_t hc k
theorem cCf {c : Operand} {x y : Code} (k : cW P y Q N E a w) (hc : evE E a c = .bool false := by kernel_rfl) : cW P (.cond c x y) Q N E a w := cW_cond_f hc k
theorem cP {c : Code} (E' : Env) (k : ∀ a', cW P c Q N E' a' w) (h : E'.map (fun p => lkE E a p.1) = E'.map (·.2) := by kernel_rfl) (hl : lowB N E' = true := by kernel_rfl) : cW P c Q N E a w := cW_prune E' h hl k
theorem gX {e : Exit} (hf : Fr N E a) (k : eX e Q N E a w) (hl : lowB N E = true := by kernel_rfl) : Q e a w := hf.goX hl k
theorem gO {c : Code} (hf : Fr N E a) (k : cW P c Q N E a w) (hl : lowB N E = true := by kernel_rfl) : c.wp P Q a w := hf.goOn hl k
theorem fO {E' : Env} (hst : St N E a) (h : E'.map (fun p => lkE E a p.1) = E'.map (·.2) := by kernel_rfl) : Fr N E' (putE E a) := Fr.of hst h
def rv (is dn : List Nat) : List Nat := is.foldl (fun d i => i :: d) dn
theorem hT (is : List Nat) (news : Env) [q : QC Q] (k : wH P ops Q Sg ws N (rv is dn) (news ++ E) a w) (hs : Region.noSelect ops = true := by kernel_rfl) (h : takeP P ops N a is dn E = some (rv is dn, news ++ E) := by kernel_rfl) : wH P ops Q Sg ws N dn E a w := wH_take is _ news hs q.c h k
theorem hL {T k : Nat} (i d : Nat) (ad : Addr) (v : Value) (hT : VarTy P T k false) (hc : ∀ W, Chg Sg ws W → W.cell? ad = some v) [q : QC Q] (kk : wH P ops Q Sg ws N (i :: dn) ((d, v) :: E) a w)
  (hs : Region.noSelect ops = true := by kernel_rfl) (hf : freeB ops dn i = true := by kernel_rfl) (ho : loadI ops N E a i = some (d, T, .pointer (some ad)) := by kernel_rfl) : wH P ops Q Sg ws N dn E a w := wH_load1 hs q.c hf ho hT hc kk
theorem hI {T e k : Nat} (i d : Nat) (A : Option Addr) (n cap : Nat) (kd : IntKind) (m : Int) (hT : SlTy P T e k) (h : A.isSome = true ∧ 0 ≤ m ∧ m < n) [q : QC Q] (kk : wH P ops Q Sg ws N (i :: dn) ((d, .pointer (some (elA A k m 0))) :: E) a w)
  (hs : Region.noSelect ops = true := by kernel_rfl) (hf : freeB ops dn i = true := by kernel_rfl) (ho : idxI ops N E a i = some (d, T, .slice A n cap, .int kd m) := by kernel_rfl) : wH P ops Q Sg ws N dn E a w := wH_idx hs q.c hf ho hT h kk
theorem sL {T k : Nat} (d : Nat) (ad : Addr) (v : Value) (hT : VarTy P T k false) (hc : w.cell? ad = some v) (kk : wS P ops Q N (i + 1) ((d, v) :: E) a w) (ho : loadI ops N E a i = some (d, T, .pointer (some ad)) := by kernel_rfl) : wS P ops Q N i E a w := wS_load1 ho hT hc kk
theorem sI {T e k : Nat} (d : Nat) (A : Option Addr) (n cap : Nat) (kd : IntKind) (m : Int) (hT : SlTy P T e k) (h : A.isSome = true ∧ 0 ≤ m ∧ m < n) (kk : wS P ops Q N (i + 1) ((d, .pointer (some (elA A k m 0))) :: E) a w) (ho : idxI ops N E a i = some (d, T, .slice A n cap, .int kd m) := by kernel_rfl) : wS P ops Q N i E a w := wS_idx ho hT h kk
theorem sC {f : FuncId} {R : Ending → World → Prop} (d : Nat) (vs : List Value) (hf : Ent P f) (hc : Calls P f vs.toArray w R) (k : ∀ e w', R e w' → ∃ v, e = .returned v ∧ wS P ops Q N (i + 1) ((d, v) :: E) a w') (ho : callI ops N E a i = some (d, f, vs) := by kernel_rfl) : wS P ops Q N i E a w := wS_calls ho hf hc k
theorem rA {fn : Func} {R : Ending → World → Prop} (u : Value) (x : Nat) (k : R (.returned (retV [u])) w) (hrs : fn.results = [ResultVar.tmp x].toArray := by rfl) (h : lkE E a x = u := by kernel_rfl) : eX .ret (bodyPost P fn R) N E a w := eX_ret (vs := [u]) [.tmp x] hrs ⟨h, trivial⟩ k
theorem rB {fn : Func} {R : Ending → World → Prop} (u v : Value) (x y : Nat) (k : R (.returned (retV [u, v])) w) (hrs : fn.results = [ResultVar.tmp x, ResultVar.tmp y].toArray := by rfl) (h : lkE E a x = u := by kernel_rfl) (h2 : lkE E a y = v := by kernel_rfl) : eX .ret (bodyPost P fn R) N E a w := eX_ret (vs := [u, v]) [.tmp x, .tmp y] hrs ⟨h, h2, trivial⟩ k
theorem wD (k : eX .normal Q N E a w) (hr : Region.ready .any ops (lsd ops.size dn) = [] := by kernel_rfl) : wH P ops Q Sg ws N dn E a w := wH_done hr k
end
section
variable {α : Type} {k : Nat} {enc : α → List Value} {w w' : World} {fp : List Nat} {A : Option Addr} {l : List α} {T T2 : TypeId} {cap : Nat}
theorem Cl.c {b : Nat} {cs : List Value} (h : Cl w b T cs) (hc : Chg [] w w') : Cl w' b T cs := h.chg hc notNil
theorem Sl.c (h : Sl k enc w fp A l) (hc : Chg [] w w') : Sl k enc w' fp A l := h.chg hc Dj.nil
theorem Ow.c (h : Ow k enc T w fp A cap l) (hc : Chg [] w w') : Ow k enc T w' fp A cap l := h.chg hc Dj.nil
theorem OwR.c {fpr : List Nat} {ll : List (List α)} (h : OwR k enc T T2 w fp fpr A cap ll) (hc : Chg [] w w') : OwR k enc T T2 w' fp fpr A cap ll := h.chg hc Dj.nil
theorem SlR.c {ll : List (List α)} (h : SlR k enc w fp A ll) (hc : Chg [] w w') : SlR k enc w' fp A ll := h.chg hc Dj.nil
theorem Mp.c {κ V : Type} [DecidableEq κ] {okk : κ → Bool} {ek : κ → Value} {ev : V → Value} {b : Nat} {m : List (κ × V)} (h : Mp okk ek ev w b m) (hc : Chg [] w w') : Mp okk ek ev w' b m := h.chg hc Dj.nil
theorem OwHR.c {fpA : List Nat} {ll : List (List α)} (h : OwHR k enc T w fp fpA A cap ll) (hc : Chg [] w w') : OwHR k enc T w' fp fpA A cap ll := h.chg hc Dj.nil
theorem OwO.c (h : OwO k enc T w fp A cap l) (hc : Chg [] w w') : OwO k enc T w' fp A cap l := h.chg hc Dj.nil
theorem Chg.q {w0 : World} {S : List Nat} (h : Chg S w0 w) (hc : Chg [] w w') : Chg S w0 w' := h.inS hc inNil
theorem Chg.z {n : Nat} (hc : Chg fp w w') (h : n ≤ w.heap.size) : n ≤ w'.heap.size := Nat.le_trans h hc.size
end
end Go.Proofs.YtbfjekmefcpkmaaDoor
