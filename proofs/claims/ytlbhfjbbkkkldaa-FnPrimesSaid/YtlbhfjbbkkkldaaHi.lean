/- Contracts of the highest throws. -/
import Derived.Test.YtlbhfjbbkkkldaaW
namespace Go.Proofs.Ytlbhfjbbkkkldaa
open Go.RowKit
set_option linter.unusedVariables false

/-- The highest throw. -/
def hiT (p : List Int) : Int := maxF 0 p
theorem hiT_bd {p : List Int} (h : thOk p = true) : 0 ≤ hiT p ∧ hiT p ≤ 15 := maxF_bd p 0 15 (by omega) (fun x hx => ((thOk_iff h).1 x hx).2)
theorem hiT_mem {p : List Int} {x : Int} (h : x ∈ p) : x ≤ hiT p := maxF_mem p 0 x h
theorem highest_any (A : Option Addr) (n c : Nat) (p : List Int) (w : World) (hn : n ≤ 1099511627776) (hp : ∀ x ∈ p, 0 ≤ x ∧ x ≤ 15) (hr : Rd w w.heap.size 1 A n (ints p)) :
    Calls Try.prog 161 #[.slice A n c] w fun e w' => e = .returned (.int .i64 (hiT p)) ∧ w = w' := by
  have hlen := hr.len
  have hst : Hid (maxF 0 (p.drop 0) = hiT p) := rfl
  have HP := hid hp
  generalize hiT p = R at *
  clear hp
  go_enter Try.func161, Try.ntmps161
  go_wp2
  go_loop [3, 8] (fun v i => ∃ (k : Nat) (m : Int), k ≤ n ∧ i = .int .i64 k ∧ v = .int .i64 m ∧ 0 ≤ m ∧ m ≤ 15 ∧ Hid (maxF m (p.drop k) = R)) (fun _ i => n - (intOf i).toNat)
  case atStart => exact ⟨0, 0, Nat.zero_le _, rfl, rfl, by omega, by omega, hst⟩
  case round =>
    obtain ⟨k, m, hk, rfl, rfl, m0, m1, he⟩ := hrel
    by_cases hlt : k < n
    · obtain ⟨b, off, x, rfl, hb, hx, hd, hc⟩ := hr.at_ hlt
      obtain ⟨x0, x1⟩ := HP.out x (List.mem_of_getElem? hx)
      have he := he.out
      rw [hd, maxF] at he
      have HZ := hid he
      clear he hst hx hd hb hr hlen
      go_wp2
      go_round
      case rel => exact ⟨k + 1, max m x, by omega, by go_num, by rw [max_if], by omega, by omega, HZ⟩
      case measure => simp [intOf]; omega
    · have : k = n := by omega
      subst this
      have he := he.out
      rw [List.drop_eq_nil_of_le (by omega)] at he
      have HZ := hid he
      clear he hst hr hlen
      go_wp2
      go_ret
      exact ⟨by rw [← HZ.out]; rfl, rfl⟩
theorem l02High_any (A : Option Addr) (n c : Nat) (p : List Int) (w : World) (hn : n ≤ 1099511627776) (hp : ∀ x ∈ p, 0 ≤ x ∧ x ≤ 15) (hr : Rd w w.heap.size 1 A n (ints p)) :
    Calls Try.prog 158 #[.slice A n c] w fun e w' => e = .returned (.int .i64 (hiT p)) ∧ w = w' := by
  have hlen := hr.len
  have hst : Hid (maxF 0 (p.drop 0) = hiT p) := rfl
  have HP := hid hp
  generalize hiT p = R at *
  clear hp
  go_enter Try.func158, Try.ntmps158
  go_wp2
  go_loop [3, 4] (fun v i => ∃ (k : Nat) (m : Int), k ≤ n ∧ i = .int .i64 k ∧ v = .int .i64 m ∧ 0 ≤ m ∧ m ≤ 15 ∧ Hid (maxF m (p.drop k) = R)) (fun _ i => n - (intOf i).toNat)
  case atStart => exact ⟨0, 0, Nat.zero_le _, rfl, rfl, by omega, by omega, hst⟩
  case round =>
    obtain ⟨k, m, hk, rfl, rfl, m0, m1, he⟩ := hrel
    by_cases hlt : k < n
    · obtain ⟨b, off, x, rfl, hb, hx, hd, hc⟩ := hr.at_ hlt
      obtain ⟨x0, x1⟩ := HP.out x (List.mem_of_getElem? hx)
      have he := he.out
      rw [hd, maxF] at he
      have HZ := hid he
      clear he hst hx hd hb hr hlen
      go_wp2_with (go_at_call 157; refine (l00Max_any _ _ _).mono ?_; rintro e w' ⟨rfl, rfl⟩)
      go_round
      case rel => exact ⟨k + 1, max m x, by omega, by go_num, by rfl, by omega, by omega, HZ⟩
      case measure => simp [intOf]; omega
    · have : k = n := by omega
      subst this
      have he := he.out
      rw [List.drop_eq_nil_of_le (by omega)] at he
      have HZ := hid he
      clear he hst hr hlen
      go_wp2
      go_ret
      exact ⟨ret_int HZ.out, rfl⟩
end Go.Proofs.Ytlbhfjbbkkkldaa
