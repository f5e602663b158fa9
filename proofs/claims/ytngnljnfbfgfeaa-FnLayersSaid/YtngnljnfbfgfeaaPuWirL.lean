/- The laws of ValidWiring, IsLayering and CostOf. -/
import Derived.Test.YtngnljnfbfgfeaaPuWir
set_option linter.unusedSimpArgs false
set_option linter.unusedVariables false
namespace Go.Proofs.Ytngnljnfbfgfeaa
open Go.RowKit

structure WSmall (c j : List (List Int)) (f : List Int) : Prop where
  hc : c.length ≤ 1048576
  hj : j.length ≤ 1048576
  hf : f.length ≤ 1048576
  hcr : ∀ r ∈ c, r.length ≤ 1048576
  hjr : ∀ r ∈ j, r.length ≤ 1048576
structure WBig (c j : List (List Int)) (f : List Int) : Prop where
  hc : c.length ≤ 9223372036854775807
  hj : j.length ≤ 9223372036854775807
  hf : f.length ≤ 9223372036854775807
  hcr : ∀ r ∈ c, r.length ≤ 9223372036854775807
  hjr : ∀ r ∈ j, r.length ≤ 9223372036854775807
theorem specCostOf_eq (n : Int) (c j : List (List Int)) (f l : List Int) (h1 : c.length ≤ 140737488) (h2 : j.length ≤ 140737488) (h3 : f.length ≤ 140737488) : m_spec_CostOf n c j f l = some (costV n c j f l) := by
  unfold m_spec_CostOf costV isLayV
  rw [specIs_eq n c j f h1 h2 h3, bind_some']
  cases h : validV n c j f with
  | false => rfl
  | true =>
    rw [bif_f (by rfl), specLay_eq h, bind_some']
    cases h4 : (decide ((l.length : Int) = n) && layV c f l) with
    | false => rfl
    | true =>
      rw [Bool.and_eq_true, decide_eq_true_eq] at h4
      rw [bif_f (by rfl), specCost_eq h h4.1]; rfl
end Go.Proofs.Ytngnljnfbfgfeaa
