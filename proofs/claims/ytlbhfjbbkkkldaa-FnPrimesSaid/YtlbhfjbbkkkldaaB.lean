/- Contracts of the functions of states, and the walks of the first laws. -/
import Derived.Test.YtlbhfjbbkkkldaaA
namespace Go.Proofs.Ytlbhfjbbkkkldaa
open Go.RowKit
set_option linter.unusedVariables false
def groundSt (p h : Int) : Int × Int × Int := if betweenB h 1 10 && betweenB p 0 h then (h, 2 ^ p.toNat - 1, 0) else (0, 0, 2)
theorem ground_yes {p h : Int} (k : betweenB h 1 10 = true) (k2 : betweenB p 0 h = true) : stRes (groundSt p h) = .tuple #[.agg #[.int .i64 h, .int .i64 (2 ^ p.toNat - 1)], .int .i64 0] := by simp [groundSt, stRes, k, k2]
theorem ground_no {p h : Int} (k : betweenB h 1 10 = false) : stRes (groundSt p h) = .tuple #[.agg #[.int .i64 0, .int .i64 0], .int .i64 2] := by simp [groundSt, stRes, k]
theorem ground_no2 {p h : Int} (k : betweenB p 0 h = false) : stRes (groundSt p h) = .tuple #[.agg #[.int .i64 0, .int .i64 0], .int .i64 2] := by simp [groundSt, stRes, k]
end Go.Proofs.Ytlbhfjbbkkkldaa
