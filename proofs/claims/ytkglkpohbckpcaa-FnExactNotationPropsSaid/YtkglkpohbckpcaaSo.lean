/- Contracts of the states of patterns. -/
import Derived.Test.YtkglkpohbckpcaaHi
import Derived.Test.YtkglkpohbckpcaaBt
import Derived.Test.YtkglkpohbckpcaaN
namespace Go.Proofs.Ytkglkpohbckpcaa
open Go.RowKit
set_option linter.unusedVariables false

/-- The mask of a pattern before the beat b: its lowest t bits. -/
def stM (p : List Int) (b : Int) : Nat → Nat
  | 0 => 0
  | t + 1 => if lf p (b + (t : Int)) < b then stM p b t + 2 ^ t else stM p b t
theorem stM_yes {p : List Int} {b : Int} {t : Nat} (h : lf p (b + (t : Int)) < b) : stM p b (t + 1) = stM p b t + 2 ^ t := by simp [stM, h]
theorem stM_not {p : List Int} {b : Int} {t : Nat} (h : ¬ lf p (b + (t : Int)) < b) : stM p b (t + 1) = stM p b t := by simp [stM, h]
theorem stM_lt (p : List Int) (b : Int) : ∀ t, stM p b t < 2 ^ t := by
  intro t
  induction t with
  | zero => simp [stM]
  | succ t ih =>
    have : 2 ^ (t + 1) = 2 ^ t + 2 ^ t := by rw [Nat.pow_succ]; omega
    by_cases h : lf p (b + (t : Int)) < b
    · rw [stM_yes h]; omega
    · rw [stM_not h]; omega
theorem or_pow {m t : Nat} (h : m < 2 ^ t) : m ||| 2 ^ t = m + 2 ^ t := by
  have := Nat.two_pow_add_eq_or_of_lt h 1
  rw [Nat.mul_one] at this
  rw [Nat.or_comm, ← this, Nat.add_comm]
theorem bits_or_pow {m t : Nat} (h : m < 2 ^ t) (ht : t ≤ 30) : bits BinOp.or IntKind.i64 (m : Int) (2 ^ t) = ((m + 2 ^ t : Nat) : Int) := by
  have h30 : 2 ^ t ≤ 2 ^ 30 := Nat.pow_le_pow_right (by omega) ht
  have := bits_or_nat m (2 ^ t) (by omega) (by omega)
  rw [or_pow h] at this
  rw [← this]
  congr 1
end Go.Proofs.Ytkglkpohbckpcaa
