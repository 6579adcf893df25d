/- Contracts of the functions of states, and the walks of the first laws. -/
import Derived.Test.YteaabniemlnjbaaA
namespace Go.Proofs.Yteaabniemlnjbaa
open Go.RowKit
set_option linter.unusedVariables false
def groundSt (p h : Int) : Int × Int × Int := if betweenB h 1 10 && betweenB p 0 h then (h, 2 ^ p.toNat - 1, 0) else (0, 0, 2)
theorem ground_yes {p h : Int} (k : betweenB h 1 10 = true) (k2 : betweenB p 0 h = true) : stRes (groundSt p h) = .tuple #[.agg #[.int .i64 h, .int .i64 (2 ^ p.toNat - 1)], .int .i64 0] := by simp [groundSt, stRes, k, k2]
theorem ground_no {p h : Int} (k : betweenB h 1 10 = false) : stRes (groundSt p h) = .tuple #[.agg #[.int .i64 0, .int .i64 0], .int .i64 2] := by simp [groundSt, stRes, k]
theorem ground_no2 {p h : Int} (k : betweenB p 0 h = false) : stRes (groundSt p h) = .tuple #[.agg #[.int .i64 0, .int .i64 0], .int .i64 2] := by simp [groundSt, stRes, k]
theorem eqState_same (h m : Int) (w : World) :
    Calls Try.prog 94 #[.agg #[.int .i64 h, .int .i64 m], .agg #[.int .i64 h, .int .i64 m]] w fun e w' => e = .returned (.bool true) ∧ Below w.heap.size w w' := by
  go_enter Try.func94, Try.ntmps94
  go_wp2
  go_ret
  exact ⟨rfl, (by repeat' (first | exact Below.refl _ _ | (with_reducible assumption) | (with_reducible refine Below.alloc ?_ ?_ _) | (with_reducible refine Below.setCell ?_ ?_ _) | (with_reducible refine Below.drew ?_) | (with_reducible refine below_drewN ?_ _) | (refine Below.trans ?_ (Below.mono (by assumption) ?_)) | (with_reducible exact Nat.le_refl _) | (with_reducible assumption) | (exact Below.size (by assumption)) | omega | go_size | (simp at *; omega)))⟩
end Go.Proofs.Yteaabniemlnjbaa
