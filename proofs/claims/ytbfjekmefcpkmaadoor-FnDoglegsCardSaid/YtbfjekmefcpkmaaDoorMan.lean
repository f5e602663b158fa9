/- What hand-made contracts reckon. -/
import Derived.Test.YtbfjekmefcpkmaaDoorEqs
set_option linter.unusedSimpArgs false
namespace Go.Proofs.YtbfjekmefcpkmaaDoor

/-- Points in order. -/
def lePt (x y : Int × Int) : Bool := decide (x.1 < y.1 ∨ x.1 = y.1 ∧ x.2 ≤ y.2)
def sortPts (l : List (Int × Int)) : List (Int × Int) := l.mergeSort lePt
def m_slices_SortFunc_impl_Point_impl_Point_impl_pointOrder (l : List (Int × Int)) : Option (List (Int × Int)) := Option.bind (apC l []) fun _ => some (sortPts l)
/-- Rows in order. -/
def lexLe : List Int → List Int → Bool
  | [], _ => true
  | _ :: _, [] => false
  | x :: l, y :: m => if x < y then true else if y < x then false else lexLe l m
def sortRows (l : List (List Int)) : List (List Int) := l.mergeSort lexLe
def m_slices_SortFunc_int64_int64_slices_Compare_int64_int64 (l : List (List Int)) : Option (List (List Int)) := Option.bind (apC l []) fun _ => some (sortRows l)
/-- Numbers in order. -/
def sortI (l : List Int) : List Int := l.mergeSort fun x y => decide (x ≤ y)
def m_slices_Sort_int_int (l : List Int) : Option (List Int) := Option.bind (apC l []) fun _ => some (sortI l)
end Go.Proofs.YtbfjekmefcpkmaaDoor
