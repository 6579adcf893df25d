/- Contracts of the small functions of numbers and states. -/
import Derived.Test.YtkglkpohbckpcaaProg
import Derived.Test.YtkglkpohbckpcaaKit
namespace Go.Proofs.Ytkglkpohbckpcaa
open Go.RowKit
set_option linter.unusedVariables false


theorem between_any (n l h : Int) (w : World) :
    Calls Try.prog 166 #[.int .i64 n, .int .i64 l, .int .i64 h] w fun e w' => e = .returned (.bool (betweenB n l h)) ∧ w = w' := by
  unfold betweenB
  go_enter Try.func166, Try.ntmps166
  go_wp2
  all_goals (go_ret; exact ⟨by simp_all; try omega, rfl⟩)
theorem l00In_any (n l h : Int) (w : World) :
    Calls Try.prog 141 #[.int .i64 n, .int .i64 l, .int .i64 h] w fun e w' => e = .returned (.bool (betweenB n l h)) ∧ w = w' := by
  unfold betweenB
  go_enter Try.func141, Try.ntmps141
  go_wp2
  all_goals (go_ret; exact ⟨by simp_all; try omega, rfl⟩)

/-- The state is valid. -/
def stOk (h m : Int) : Bool := betweenB h 1 10 && betweenB m 0 (2 ^ h.toNat - 1)
theorem stOk_iff {h m : Int} (k : stOk h m = true) : 1 ≤ h ∧ h ≤ 10 ∧ 0 ≤ m ∧ m ≤ 2 ^ h.toNat - 1 ∧ m ≤ 1023 := by
  simp only [stOk, Bool.and_eq_true, betweenB_iff] at k
  refine ⟨k.1.1, k.1.2, k.2.1, k.2.2, Int.le_trans k.2.2 ?_⟩
  have h1 := k.1
  have : (2 : Int) ^ h.toNat ≤ 1024 := by
    have h2 : h = 1 ∨ h = 2 ∨ h = 3 ∨ h = 4 ∨ h = 5 ∨ h = 6 ∨ h = 7 ∨ h = 8 ∨ h = 9 ∨ h = 10 := by omega
    rcases h2 with h2 | h2 | h2 | h2 | h2 | h2 | h2 | h2 | h2 | h2 <;> subst h2 <;> decide
  omega

theorem pow_wrap (h : Int) (h0 : 0 ≤ h) (h1 : h ≤ 62) : wrap64 (2 ^ h.toNat) = 2 ^ h.toNat ∧ (1 : Int) ≤ 2 ^ h.toNat ∧ (2 : Int) ^ h.toNat ≤ 4611686018427387904 := by
  obtain ⟨k, rfl⟩ := Int.eq_ofNat_of_zero_le h0
  have a : (2 : Nat) ^ k ≤ 2 ^ 62 := Nat.pow_le_pow_right (by omega) (by omega)
  have b : 1 ≤ (2 : Nat) ^ k := Nat.one_le_two_pow
  have e : ((2 : Int) ^ ((k : Int)).toNat) = ((2 ^ k : Nat) : Int) := by simp
  rw [e]
  generalize (2 : Nat) ^ k = q at *
  exact ⟨IntWalk.wrap64_in _ (by omega), by omega, by omega⟩


/-- Whether bit t is set. -/
def bitB (m t : Int) : Bool := bits BinOp.and IntKind.i64 (m / 2 ^ t.toNat) 1 == 1


/-- Whether a throw is possible. -/
def canB (h m t : Int) : Bool := if t = 0 then !bitB m 0 else betweenB t 1 h && bitB m 0 && !bitB m t
theorem canB_zero (h m : Int) : canB h m 0 = !bitB m 0 := by simp [canB]
theorem canB_no (h m t : Int) (ht : t ≠ 0) (k : betweenB t 1 h = false) : canB h m t = false := by simp [canB, ht, k]
theorem canB_no0 (h m t : Int) (ht : t ≠ 0) (k : bitB m 0 = false) : canB h m t = false := by simp [canB, ht, k]
theorem canB_yes (h m t : Int) (ht : t ≠ 0) (k : betweenB t 1 h = true) (k2 : bitB m 0 = true) : canB h m t = !bitB m t := by simp [canB, ht, k, k2]


/-- The mask after a throw. -/
def nextM (m t : Int) : Int := if 0 < t then bits BinOp.or IntKind.i64 (m / 2) (2 ^ (t.toNat - 1)) else m / 2
theorem nextM_pos (m t : Int) (h : 0 < t) : nextM m t = bits BinOp.or IntKind.i64 (m / 2) (2 ^ (t.toNat - 1)) := by simp [nextM, h]
theorem nextM_not (m t : Int) (h : ¬ 0 < t) : nextM m t = m / 2 := by simp [nextM, h]
theorem ret_st {a b c d : Int} (h : b = d) (h2 : a = c) : Ending.returned (.agg #[.int .i64 a, .int .i64 b]) = .returned (.agg #[.int .i64 c, .int .i64 d]) := by rw [h, h2]


theorem canB_le {h m t : Int} (k : stOk h m = true) (c : canB h m t = true) : t ≤ 10 := by
  have := stOk_iff k
  by_cases e : t = 0
  · omega
  · simp only [canB, e, if_false, Bool.and_eq_true, betweenB_iff] at c; omega

/-- What NextState gives: the state and a code. -/
def nextSt (h m t : Int) : Int × Int × Int := if stOk h m then (if canB h m t then (h, nextM m t, 0) else (0, 0, 6)) else (0, 0, 1)
def stRes (r : Int × Int × Int) : Value := .tuple #[.agg #[.int .i64 r.1, .int .i64 r.2.1], .int .i64 r.2.2]

end Go.Proofs.Ytkglkpohbckpcaa
