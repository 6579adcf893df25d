/- Contracts of the reference's functions on orders of hands, and the walk of the law of ValidHands. -/
import Derived.Test.YtlbhfjbbkkkldaaV
namespace Go.Proofs.Ytlbhfjbbkkkldaa
open Go.RowKit
set_option linter.unusedVariables false

theorem l00Max_any (a b : Int) (w : World) :
    Calls Try.prog 157 #[.int .i64 a, .int .i64 b] w fun e w' => e = .returned (.int .i64 (max a b)) ∧ w = w' := by
  by_cases h : b < a
  · go_enter Try.func157, Try.ntmps157
    go_wp2
    go_ret
    exact ⟨ret_int (by omega), rfl⟩
  · go_enter Try.func157, Try.ntmps157
    go_wp2
    go_ret
    exact ⟨ret_int (by omega), rfl⟩
def rValidHands (p : List Int) : Bool := hdOk p
end Go.Proofs.Ytlbhfjbbkkkldaa
