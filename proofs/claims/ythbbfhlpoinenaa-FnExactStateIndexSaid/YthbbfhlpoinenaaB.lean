/- Contracts of the functions of states, and the walks of the first laws. -/
import Derived.Test.YthbbfhlpoinenaaA
namespace Go.Proofs.Ythbbfhlpoinenaa
open Go.RowKit
set_option linter.unusedVariables false
def groundSt (p h : Int) : Int × Int × Int := if betweenB h 1 10 && betweenB p 0 h then (h, 2 ^ p.toNat - 1, 0) else (0, 0, 2)
theorem ground_yes {p h : Int} (k : betweenB h 1 10 = true) (k2 : betweenB p 0 h = true) : stRes (groundSt p h) = .tuple #[.agg #[.int .i64 h, .int .i64 (2 ^ p.toNat - 1)], .int .i64 0] := by simp [groundSt, stRes, k, k2]
theorem ground_no {p h : Int} (k : betweenB h 1 10 = false) : stRes (groundSt p h) = .tuple #[.agg #[.int .i64 0, .int .i64 0], .int .i64 2] := by simp [groundSt, stRes, k]
theorem ground_no2 {p h : Int} (k : betweenB p 0 h = false) : stRes (groundSt p h) = .tuple #[.agg #[.int .i64 0, .int .i64 0], .int .i64 2] := by simp [groundSt, stRes, k]
theorem l08Ground_any (p : Int) (w : World) (h0 : 0 ≤ p) (h1 : p ≤ 62) :
    Calls Try.prog 82 #[.int .i64 p] w fun e w' => e = .returned (.int .i64 (2 ^ p.toNat - 1)) ∧ w = w' := by
  obtain ⟨p1, p2, p3⟩ := pow_wrap p (by omega) (by omega)
  go_enter Try.func82, Try.ntmps82
  go_wp2
  go_ret
  exact ⟨rfl, rfl⟩
theorem toState_any (h m : Int) (w : World) :
    Calls Try.prog 16 #[.agg #[.int .i64 h, .int .i64 m]] w fun e w' => e = .returned (.agg #[.int .i64 h, .int .i64 m]) ∧ Below w.heap.size w w' := by
  go_enter Try.func16, Try.ntmps16
  go_wp2
  refine bodyPost_ret (v := .agg #[.int .i64 h, .int .i64 m]) ?_ rfl ⟨rfl, ?_⟩
  · simp (maxDischargeDepth := 8) [results, Try.results16, go_sem, *]
  · exact (by repeat' (first | exact Below.refl _ _ | (with_reducible assumption) | (with_reducible refine Below.alloc ?_ ?_ _) | (with_reducible refine Below.setCell ?_ ?_ _) | (with_reducible refine Below.drew ?_) | (with_reducible refine below_drewN ?_ _) | (refine Below.trans ?_ (Below.mono (by assumption) ?_)) | (with_reducible exact Nat.le_refl _) | (with_reducible assumption) | (exact Below.size (by assumption)) | omega | go_size | (simp at *; omega)))
theorem eqState_same (h m : Int) (w : World) :
    Calls Try.prog 47 #[.agg #[.int .i64 h, .int .i64 m], .agg #[.int .i64 h, .int .i64 m]] w fun e w' => e = .returned (.bool true) ∧ Below w.heap.size w w' := by
  go_enter Try.func47, Try.ntmps47
  go_wp2
  go_ret
  exact ⟨rfl, (by repeat' (first | exact Below.refl _ _ | (with_reducible assumption) | (with_reducible refine Below.alloc ?_ ?_ _) | (with_reducible refine Below.setCell ?_ ?_ _) | (with_reducible refine Below.drew ?_) | (with_reducible refine below_drewN ?_ _) | (refine Below.trans ?_ (Below.mono (by assumption) ?_)) | (with_reducible exact Nat.le_refl _) | (with_reducible assumption) | (exact Below.size (by assumption)) | omega | go_size | (simp at *; omega)))⟩
end Go.Proofs.Ythbbfhlpoinenaa
