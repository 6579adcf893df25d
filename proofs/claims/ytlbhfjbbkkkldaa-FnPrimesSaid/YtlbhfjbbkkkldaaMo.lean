/- Contracts of the remainders, and of the numbers of a list at a beat. -/
import Derived.Test.YtlbhfjbbkkkldaaT
import Derived.Test.YtlbhfjbbkkkldaaO
namespace Go.Proofs.Ytlbhfjbbkkkldaa
open Go.RowKit
set_option linter.unusedVariables false

theorem mod_eq (a n : Int) (hn : 1 ≤ n) : (a.tmod n + n) % n = a % n := by
  have h := Int.mul_tdiv_add_tmod a n
  have e : a.tmod n + n = a + n * (1 - a.tdiv n) := by rw [Int.mul_sub]; omega
  rw [e, Int.add_mul_emod_self_left]
theorem tmod_lo (a n : Int) (hn : 1 ≤ n) : -n < a.tmod n ∧ a.tmod n < n := by
  constructor
  · exact Int.lt_tmod_of_pos a (by omega)
  · exact Int.tmod_lt_of_pos a (by omega)
theorem modulo_any (a n : Int) (w : World) (h1 : 1 ≤ n) (h2 : n ≤ 1099511627776) :
    Calls Try.prog 121 #[.int .i64 a, .int .i64 n] w fun e w' => e = .returned (.int .i64 (a % n)) ∧ w = w' := by
  have h : Hid (a.tmod n % n = a % n) := by show _ = _; rw [← mod_eq a n h1, Int.add_emod_right]
  obtain ⟨t1, t2⟩ := tmod_lo a n h1
  by_cases ha : 0 ≤ a
  · have h3 : Hid ((a % n + n) % n = a % n) := by show _ = _; rw [Int.add_emod_right]; exact Int.emod_emod_of_dvd a (Int.dvd_refl n)
    have h4 : 0 ≤ a % n := Int.emod_nonneg _ (by omega)
    have h5 : a % n < n := Int.emod_lt_of_pos _ (by omega)
    go_enter Try.func121, Try.ntmps121
    go_wp2
    go_ret
    exact ⟨ret_int h3.out, rfl⟩
  · go_enter Try.func121, Try.ntmps121
    go_wp2
    go_ret
    exact ⟨ret_int h.out, rfl⟩
theorem l02Mod_any (a n : Int) (w : World) (h1 : 1 ≤ n) (h2 : n ≤ 1099511627776) :
    Calls Try.prog 166 #[.int .i64 a, .int .i64 n] w fun e w' => e = .returned (.int .i64 (a % n)) ∧ w = w' := by
  have h : Hid (a.tmod n % n = a % n) := by show _ = _; rw [← mod_eq a n h1, Int.add_emod_right]
  obtain ⟨t1, t2⟩ := tmod_lo a n h1
  by_cases ha : 0 ≤ a
  · have h3 : Hid ((a % n + n) % n = a % n) := by show _ = _; rw [Int.add_emod_right]; exact Int.emod_emod_of_dvd a (Int.dvd_refl n)
    have h4 : 0 ≤ a % n := Int.emod_nonneg _ (by omega)
    have h5 : a % n < n := Int.emod_lt_of_pos _ (by omega)
    go_enter Try.func166, Try.ntmps166
    go_wp2
    go_ret
    exact ⟨ret_int h3.out, rfl⟩
  · go_enter Try.func166, Try.ntmps166
    go_wp2
    go_ret
    exact ⟨ret_int h.out, rfl⟩
theorem Rd.atB_ {w : World} {B n : Nat} {A : Option Addr} {p : List Int} (h : Rd w B 1 A n (ints p)) (b : Int) (hn : 1 ≤ n) :
    ∃ (k : Nat) (bk off : Nat), b % (n : Int) = (k : Int) ∧ k < n ∧ A = some ⟨bk, off, none⟩ ∧ w.cell? ⟨bk, off + k, none⟩ = some (.int .i64 (atB p b)) := by
  have h0 : 0 ≤ b % (n : Int) := Int.emod_nonneg _ (by omega)
  have h1 : b % (n : Int) < n := Int.emod_lt_of_pos _ (by omega)
  obtain ⟨k, hk⟩ := Int.eq_ofNat_of_zero_le h0
  obtain ⟨bk, off, x, hA, _, hx, _, hc⟩ := h.at_ (show k < n by omega)
  refine ⟨k, bk, off, hk, by omega, hA, ?_⟩
  rw [hc, atB, h.len, hk, Int.toNat_natCast, List.getD_eq_getElem?_getD, hx]; rfl
end Go.Proofs.Ytlbhfjbbkkkldaa
