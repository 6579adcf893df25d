/- Contracts of the reference's functions on orders of hands, and the walk of the law of ValidHands. -/
import Derived.Test.YtkglkpohbckpcaaV
namespace Go.Proofs.Ytkglkpohbckpcaa
open Go.RowKit
set_option linter.unusedVariables false

def rValidHands (p : List Int) : Bool := hdOk p
end Go.Proofs.Ytkglkpohbckpcaa
