/- Contracts of the sums of throws and of AverageOf, and the walk of its law. -/
import Derived.Test.YtlbhfjbbkkkldaaT
namespace Go.Proofs.Ytlbhfjbbkkkldaa
open Go.RowKit
set_option linter.unusedVariables false

/-- The sum of a list. -/
def sumL : List Int → Int
  | [] => 0
  | x :: xs => x + sumL xs
theorem sumL_bd : ∀ (xs : List Int), (∀ x ∈ xs, 0 ≤ x ∧ x ≤ 15) → 0 ≤ sumL xs ∧ sumL xs ≤ 15 * (xs.length : Int) := by
  intro xs
  induction xs with
  | nil => intro _; simp [sumL]
  | cons x xs ih =>
    intro h
    have h1 := h x List.mem_cons_self
    have h2 := ih (fun y hy => h y (List.mem_cons_of_mem _ hy))
    simp only [sumL, List.length_cons]; omega
theorem l02Sum_any (A : Option Addr) (n c : Nat) (p : List Int) (w : World) (hp : thOk p = true) (hr : Rd w w.heap.size 1 A n (ints p)) :
    Calls Try.prog 160 #[.slice A n c] w fun e w' => e = .returned (.int .i64 (sumL p)) ∧ w = w' := by
  have hlen := hr.len
  obtain ⟨q1, q2, q3⟩ := thOk_iff hp
  have hst : Hid ((0 : Int) + sumL (p.drop 0) = sumL p) := by show _ = _; simp
  have Q := hid q1
  have hn1 : 1 ≤ n := by omega
  have hn2 : n ≤ 12 := by omega
  generalize sumL p = R at *
  clear q1 q2 q3 hp
  go_enter Try.func160, Try.ntmps160
  go_wp2
  go_loop [3, 4] (fun v i => ∃ (k : Nat) (m : Int), k ≤ n ∧ i = .int .i64 k ∧ v = .int .i64 m ∧ 0 ≤ m ∧ m ≤ 15 * (k : Int) ∧ Hid (m + sumL (p.drop k) = R)) (fun _ i => n - (intOf i).toNat)
  case atStart => exact ⟨0, 0, Nat.zero_le _, rfl, rfl, by omega, by omega, hst⟩
  case round =>
    obtain ⟨k, m, hk, rfl, rfl, m0, m1, he⟩ := hrel
    by_cases hlt : k < n
    · obtain ⟨b, off, x, rfl, hb, hx, hd, hc⟩ := hr.at_ hlt
      obtain ⟨x0, x1⟩ := Q.out x (List.mem_of_getElem? hx)
      have HZ : Hid ((m + x) + sumL (p.drop (k + 1)) = R) := by show _ = _; rw [← he.out, hd, sumL]; omega
      clear he hst hx hd hb hr hlen
      go_wp2
      go_round
      case rel => exact ⟨k + 1, m + x, by omega, by go_num, rfl, by omega, by omega, HZ⟩
      case measure => simp [intOf]; omega
    · have HZ : Hid (m = R) := by
        show _ = _
        rw [← he.out, List.drop_eq_nil_of_le (by omega), sumL]; omega
      clear he hst hr hlen
      go_wp2
      go_ret
      exact ⟨ret_int HZ.out, rfl⟩
/-- What AverageOf gives. -/
def rAverageOf (p : List Int) : Int × Bool × Int := if thOk p then (sumL p / (p.length : Int), (sumL p % (p.length : Int) == 0), 0) else (0, false, 1)
end Go.Proofs.Ytlbhfjbbkkkldaa
