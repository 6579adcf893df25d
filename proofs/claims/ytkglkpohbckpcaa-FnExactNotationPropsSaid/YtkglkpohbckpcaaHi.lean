/- Contracts of the highest throws. -/
import Derived.Test.YtkglkpohbckpcaaW
namespace Go.Proofs.Ytkglkpohbckpcaa
open Go.RowKit
set_option linter.unusedVariables false

/-- The highest throw. -/
def hiT (p : List Int) : Int := maxF 0 p
theorem hiT_bd {p : List Int} (h : thOk p = true) : 0 ≤ hiT p ∧ hiT p ≤ 15 := maxF_bd p 0 15 (by omega) (fun x hx => ((thOk_iff h).1 x hx).2)
theorem hiT_mem {p : List Int} {x : Int} (h : x ∈ p) : x ≤ hiT p := maxF_mem p 0 x h
end Go.Proofs.Ytkglkpohbckpcaa
