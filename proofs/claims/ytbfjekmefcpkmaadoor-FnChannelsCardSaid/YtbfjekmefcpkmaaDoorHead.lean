/- The dump's head, sign by sign: so that the kernel decodes it once. -/
import Derived.Test.YtbfjekmefcpkmaaDoorRows
import Derived.ProofKit
set_option linter.unusedSimpArgs false
set_option linter.unusedVariables false
namespace Go.Proofs.YtbfjekmefcpkmaaDoor
open Go.RowKit
def headSigns : List Char := [Char.ofNat 104, Char.ofNat 97, Char.ofNat 114, Char.ofNat 110, Char.ofNat 101, Char.ofNat 115, Char.ofNat 115, Char.ofNat 32, Char.ofNat 50, Char.ofNat 100, Char.ofNat 51, Char.ofNat 54, Char.ofNat 53, Char.ofNat 49, Char.ofNat 57, Char.ofNat 48, Char.ofNat 49, Char.ofNat 53, Char.ofNat 101, Char.ofNat 100, Char.ofNat 102, Char.ofNat 101, Char.ofNat 98, Char.ofNat 49, Char.ofNat 101, Char.ofNat 49, Char.ofNat 97, Char.ofNat 51, Char.ofNat 53, Char.ofNat 54, Char.ofNat 99, Char.ofNat 102, Char.ofNat 56, Char.ofNat 102, Char.ofNat 101, Char.ofNat 50, Char.ofNat 97, Char.ofNat 55, Char.ofNat 56, Char.ofNat 54, Char.ofNat 54, Char.ofNat 56, Char.ofNat 49, Char.ofNat 50, Char.ofNat 51, Char.ofNat 51, Char.ofNat 98, Char.ofNat 53, Char.ofNat 54, Char.ofNat 54, Char.ofNat 51, Char.ofNat 50, Char.ofNat 56, Char.ofNat 49, Char.ofNat 49, Char.ofNat 50, Char.ofNat 54, Char.ofNat 55, Char.ofNat 50, Char.ofNat 54, Char.ofNat 102, Char.ofNat 49, Char.ofNat 97, Char.ofNat 57, Char.ofNat 55, Char.ofNat 53, Char.ofNat 55, Char.ofNat 52, Char.ofNat 53, Char.ofNat 50, Char.ofNat 98, Char.ofNat 99, Char.ofNat 32, Char.ofNat 99, Char.ofNat 117, Char.ofNat 116, Char.ofNat 32, Char.ofNat 97, Char.ofNat 116, Char.ofNat 32, Char.ofNat 108, Char.ofNat 111, Char.ofNat 111, Char.ofNat 112, Char.ofNat 46, Char.ofNat 101, Char.ofNat 120, Char.ofNat 97, Char.ofNat 109, Char.ofNat 112, Char.ofNat 108, Char.ofNat 101, Char.ofNat 47, Char.ofNat 103, Char.ofNat 48, Char.ofNat 49, Char.ofNat 49, Char.ofNat 52, Char.ofNat 57, Char.ofNat 47, Char.ofNat 108, Char.ofNat 97, Char.ofNat 119, Char.ofNat 115, Char.ofNat 46, Char.ofNat 70, Char.ofNat 110, Char.ofNat 67, Char.ofNat 104, Char.ofNat 97, Char.ofNat 110, Char.ofNat 110, Char.ofNat 101, Char.ofNat 108, Char.ofNat 115, Char.ofNat 32, Char.ofNat 108, Char.ofNat 111, Char.ofNat 111, Char.ofNat 112, Char.ofNat 46, Char.ofNat 101, Char.ofNat 120, Char.ofNat 97, Char.ofNat 109, Char.ofNat 112, Char.ofNat 108, Char.ofNat 101, Char.ofNat 47, Char.ofNat 103, Char.ofNat 48, Char.ofNat 49, Char.ofNat 49, Char.ofNat 52, Char.ofNat 57, Char.ofNat 47, Char.ofNat 108, Char.ofNat 97, Char.ofNat 119, Char.ofNat 115, Char.ofNat 46, Char.ofNat 70, Char.ofNat 110, Char.ofNat 69, Char.ofNat 120, Char.ofNat 97, Char.ofNat 99, Char.ofNat 116, Char.ofNat 70, Char.ofNat 101, Char.ofNat 119, Char.ofNat 101, Char.ofNat 115, Char.ofNat 116, Char.ofNat 84, Char.ofNat 114, Char.ofNat 97, Char.ofNat 99, Char.ofNat 107, Char.ofNat 115, Char.ofNat 32, Char.ofNat 108, Char.ofNat 111, Char.ofNat 111, Char.ofNat 112, Char.ofNat 46, Char.ofNat 101, Char.ofNat 120, Char.ofNat 97, Char.ofNat 109, Char.ofNat 112, Char.ofNat 108, Char.ofNat 101, Char.ofNat 47, Char.ofNat 103, Char.ofNat 48, Char.ofNat 49, Char.ofNat 49, Char.ofNat 52, Char.ofNat 57, Char.ofNat 47, Char.ofNat 108, Char.ofNat 97, Char.ofNat 119, Char.ofNat 115, Char.ofNat 46, Char.ofNat 70, Char.ofNat 110, Char.ofNat 69, Char.ofNat 120, Char.ofNat 97, Char.ofNat 99, Char.ofNat 116, Char.ofNat 70, Char.ofNat 101, Char.ofNat 119, Char.ofNat 101, Char.ofNat 115, Char.ofNat 116, Char.ofNat 87, Char.ofNat 105, Char.ofNat 116, Char.ofNat 104, Char.ofNat 68, Char.ofNat 111, Char.ofNat 103, Char.ofNat 108, Char.ofNat 101, Char.ofNat 103, Char.ofNat 115, Char.ofNat 32, Char.ofNat 108, Char.ofNat 111, Char.ofNat 111, Char.ofNat 112, Char.ofNat 46, Char.ofNat 101, Char.ofNat 120, Char.ofNat 97, Char.ofNat 109, Char.ofNat 112, Char.ofNat 108, Char.ofNat 101, Char.ofNat 47, Char.ofNat 103, Char.ofNat 48, Char.ofNat 49, Char.ofNat 49, Char.ofNat 52, Char.ofNat 57, Char.ofNat 47, Char.ofNat 108, Char.ofNat 97, Char.ofNat 119, Char.ofNat 115, Char.ofNat 46, Char.ofNat 70, Char.ofNat 110, Char.ofNat 68, Char.ofNat 111, Char.ofNat 103, Char.ofNat 108, Char.ofNat 101, Char.ofNat 103, Char.ofNat 115]
set_option maxRecDepth 100000 in
theorem head_text : Tryd.prog.initOrder = String.ofList headSigns := by kernel_rfl
theorem head_eq : Tryd.prog.initOrder.toList = headSigns := by rw [head_text]; exact String.toList_ofList
def headRest : List (List Char) := (behindMainWord (wordsSigns headSigns)).tail
theorem words_eq : behindMainWord (wordsSigns headSigns) = "cut".toList :: headRest := by kernel_rfl
theorem lays_later : Tryd.prog.laysLater = false := by kernel_rfl
theorem bears_reflect : Tryd.prog.bearsReflect = false := by kernel_rfl
theorem strip_eq : stripLifts liftWords ("cut".toList :: headRest) = ([], "cut".toList :: headRest) := by kernel_rfl
theorem door_fits : Tryd.prog.doorFits [] = true := by kernel_rfl
theorem lifts_of (P : Program) (r : List (List Char)) (h : behindMainWord (wordsSigns P.initOrder.toList) = "cut".toList :: r) (hs : stripLifts liftWords ("cut".toList :: r) = ([], "cut".toList :: r)) : P.headLifts = [] := by
 unfold Program.headLifts; rw [h, hs]; simp
theorem enter_of (P : Program) (r : List (List Char)) (h : behindMainWord (wordsSigns P.initOrder.toList) = "cut".toList :: r) (hs : stripLifts liftWords ("cut".toList :: r) = ([], "cut".toList :: r))
  (h1 : P.laysLater = false) (h2 : P.bearsReflect = false) (h3 : P.doorFits [] = true) : P.mayEnter = true := by
 unfold Program.mayEnter
 rw [h]
 simp only [hs, h1, h2, h3]
 simp
theorem final_of (P : Program) (r : List (List Char)) (h : behindMainWord (wordsSigns P.initOrder.toList) = "cut".toList :: r) (hl : P.headLifts = []) : P.liftsFinal = false := by
 unfold Program.liftsFinal
 rw [h, hl]
 simp
theorem make_of (P : Program) (r : List (List Char)) (h : behindMainWord (wordsSigns P.initOrder.toList) = "cut".toList :: r) : P.make = some .cut := by
 unfold Program.make
 rw [h]
 simp
theorem words_of : behindMainWord (wordsSigns Tryd.prog.initOrder.toList) = "cut".toList :: headRest := (congrArg (fun l => behindMainWord (wordsSigns l)) head_eq).trans words_eq
theorem may_enter : Tryd.prog.mayEnter = true := enter_of Tryd.prog _ words_of strip_eq lays_later bears_reflect door_fits
theorem lifts_final : Tryd.prog.liftsFinal = false := final_of Tryd.prog _ words_of (lifts_of Tryd.prog _ words_of strip_eq)
theorem make_cut : Tryd.prog.make = some .cut := make_of Tryd.prog _ words_of
theorem and_t {a b : Bool} (h : a = true) (k : b = true) : (a && b) = true := by rw [h, k]; rfl
theorem laid_out : laidOutB Tryd.prog = true := by kernel_rfl
theorem maps_rowed : mapsRowed Tryd.prog = true := by kernel_rfl
theorem stops_none : Tryd.prog.stops = [] := by kernel_rfl
theorem stop_knobs : Tryd.prog.stopKnobs = [] := by kernel_rfl
theorem stops_heard : Tryd.prog.stopsHeard = true := by kernel_rfl
theorem facts_of (P : Program) (f : FuncId) (fn : Func) (s : ChangeSpec) (c : OpenClaim) (h1 : P.mayEnter = true) (h2 : P.liftsFinal = false) (h3 : P.make = some .cut) (h4 : laidOutB P = true) (h5 : mapsRowed P = true)
  (h6 : P.stops = []) (h7 : P.stopKnobs = []) (h8 : P.stopsHeard = true) (k2 : c.lifted = false) (k3 : c.make = .cut)
  (h : (c.wf (OpenSpec.ofChange s) &&
   fn.params.all (P.readableRec ·) && namedTie P c.named s.vars &&
   (c.stops == []) && (c.knobs == []) &&
   (c.inPlace == P.inPlace f) && (c.unfollowed == P.unfollowed f) && (c.recurses == P.recurses f) && (c.named == P.varsNamed f) &&
   (c.maps == (fn.params.toList ++ s.plain.varTypes P).any (P.mapsRec ·)) && (c.ifaces == (fn.params.toList ++ s.plain.varTypes P).any (P.ifacesRec ·)) && (c.mapsOut == P.mapsAmong fn.resultTypes.toList) &&
   (c.loops == (fn.params.toList ++ s.plain.varTypes P).any (P.loopsFrom ·)) && (c.wideKeys == (fn.params.toList ++ s.plain.varTypes P ++ fn.resultTypes.toList).any (P.wideKeysFrom ·)) &&
   s.vars.all (P.varReadable ·) && fn.resultTypes.all (fun t => P.readableRec t && decide (t < P.types.size)) && (c.ifacesOut == fn.resultTypes.toList.any (P.ifacesRec ·)) && (c.loopsOut == fn.resultTypes.toList.any (P.loopsFrom ·)) && (c.plainKeys == P.plainKeys) && c.shortTexts.isNone &&
   (c.kinds == (if c.domain.isEmpty then [] else fn.params.toList.map fun t => match P.underlying t with | some (.int k) => some k | _ => none)) && (c.pinned == c.pinnedBy) &&
   (c.veiled == (fn.params.toList ++ s.plain.varTypes P ++ fn.resultTypes.toList).any (P.veiledRec ·)) && c.veiledFits P fn.params.toList (fn.params.toList ++ s.plain.varTypes P ++ fn.resultTypes.toList)) = true) :
  joinedFacts P f fn s c = true := by
 unfold joinedFacts
 simp only [Bool.and_eq_true] at h ⊢
 simp only [h1, h2, h3, h4, h5, h6, h7, h8, k2, k3]
 simp only [h, and_self, beq_self_eq_true, and_true, true_and]
 exact h.1.1.1.2
end Go.Proofs.YtbfjekmefcpkmaaDoor
