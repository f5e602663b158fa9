/- What hand-made contracts reckon. -/
import Derived.Test.YtbfjekmefcpkmaaDoorEqs
set_option linter.unusedSimpArgs false
namespace Go.Proofs.YtbfjekmefcpkmaaDoor

def lePt (x y : Int × Int) : Bool := decide (x.1 < y.1 ∨ x.1 = y.1 ∧ x.2 ≤ y.2)
def sortPts (l : List (Int × Int)) : List (Int × Int) := l.mergeSort lePt
def m_sSortFPoint (l : List (Int × Int)) : Option (List (Int × Int)) := Option.bind (apC l []) fun _ => some (sortPts l)
def lexLe : List Int → List Int → Bool
 | [], _ => true
 | _ :: _, [] => false
 | x :: l, y :: m => if x < y then true else if y < x then false else lexLe l m
def sortRows (l : List (List Int)) : List (List Int) := l.mergeSort lexLe
def m_sSortFCompa (l : List (List Int)) : Option (List (List Int)) := Option.bind (apC l []) fun _ => some (sortRows l)
def sortI (l : List Int) : List Int := l.mergeSort fun x y => decide (x ≤ y)
def m_sSort1 (l : List Int) : Option (List Int) := Option.bind (apC l []) fun _ => some (sortI l)
def m_sSort (l : List Int) : Option (List Int) := Option.bind (apC l []) fun _ => some (sortI l)
end Go.Proofs.YtbfjekmefcpkmaaDoor
