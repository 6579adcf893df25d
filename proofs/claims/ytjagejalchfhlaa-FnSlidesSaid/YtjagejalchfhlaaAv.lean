/- Contracts of the sums of throws and of AverageOf, and the walk of its law. -/
import Derived.Test.YtjagejalchfhlaaT
namespace Go.Proofs.Ytjagejalchfhlaa
open Go.RowKit
set_option linter.unusedVariables false

/-- The sum of a list. -/
def sumL : List Int → Int
  | [] => 0
  | x :: xs => x + sumL xs
theorem sumL_bd : ∀ (xs : List Int), (∀ x ∈ xs, 0 ≤ x ∧ x ≤ 15) → 0 ≤ sumL xs ∧ sumL xs ≤ 15 * (xs.length : Int) := by
  intro xs
  induction xs with
  | nil => intro _; simp [sumL]
  | cons x xs ih =>
    intro h
    have h1 := h x List.mem_cons_self
    have h2 := ih (fun y hy => h y (List.mem_cons_of_mem _ hy))
    simp only [sumL, List.length_cons]; omega
/-- What AverageOf gives. -/
def rAverageOf (p : List Int) : Int × Bool × Int := if thOk p then (sumL p / (p.length : Int), (sumL p % (p.length : Int) == 0), 0) else (0, false, 1)
end Go.Proofs.Ytjagejalchfhlaa
