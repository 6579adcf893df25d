/- Contracts of the functions that check siteswaps. -/
import Derived.Test.YtegapfkmgfcolaaA
import Derived.Test.YtegapfkmgfcolaaC
import Derived.Test.YtegapfkmgfcolaaS
namespace Go.Proofs.Ytegapfkmgfcolaa
open Go.RowKit
set_option linter.unusedVariables false

theorem all_step {p : List Int} {i : Nat} {x : Int} {R : Bool} (f : Int → Bool) (h : (p.drop i).all f = R) (hd : p.drop i = x :: p.drop (i + 1)) (hx : f x = true) : (p.drop (i + 1)).all f = R := by
  rw [hd] at h; simpa [hx] using h
theorem all_stop {p : List Int} {i : Nat} {x : Int} {R : Bool} (f : Int → Bool) (h : (p.drop i).all f = R) (hd : p.drop i = x :: p.drop (i + 1)) (hx : f x = false) : R = false := by
  rw [hd] at h; simpa [hx] using h.symm
theorem areThrows_any (A : Option Addr) (n c : Nat) (p : List Int) (w : World) (hn : n ≤ 1099511627776) (hr : Rd w w.heap.size 1 A n (ints p)) :
    Calls Try.prog 61 #[.slice A n c] w fun e w' => e = .returned (.bool (thOk p)) ∧ w = w' := by
  have hlen := hr.len
  obtain ⟨R, hR⟩ : ∃ R, (p.drop 0).all (betweenB · 0 15) = R := ⟨_, rfl⟩
  have hR := hid hR
  have hth : Hid (thOk p = (R && betweenB (n : Int) 1 12)) := by show _ = _; rw [← hR.out, thOk, hlen]; simp
  go_enter Try.func61, Try.ntmps61
  go_wp2
  go_loop [7] (fun i => ∃ k : Nat, k ≤ n ∧ i = .int .i64 k ∧ Hid ((p.drop k).all (betweenB · 0 15) = R)) (fun i => n - (intOf i).toNat)
  case atStart => exact ⟨0, Nat.zero_le _, rfl, hR⟩
  case round =>
    obtain ⟨k, hk, rfl, he⟩ := hrel
    by_cases hlt : k < n
    · obtain ⟨b, off, x, rfl, hb, hx, hd, hc⟩ := hr.at_ hlt
      by_cases hx2 : betweenB x 0 15 = true
      · have HZ := hid (all_step _ he.out hd hx2)
        clear he hR hth hx hd hb hr hlen
        go_wp2_with (go_at_call 47; refine (between_any _ _ _ _).mono ?_; rintro e w' ⟨rfl, rfl⟩)
        go_round
        case rel => exact ⟨k + 1, by omega, by go_num, HZ⟩
        case measure => simp [intOf]; omega
      · have hx2 : betweenB x 0 15 = false := by simpa using hx2
        have hF := all_stop _ he.out hd hx2
        have HZ : Hid (thOk p = false) := by show _ = _; rw [hth.out, hF]; rfl
        clear he hR hth hx hd hb hr hlen hF
        go_wp2_with (go_at_call 47; refine (between_any _ _ _ _).mono ?_; rintro e w' ⟨rfl, rfl⟩)
        go_ret
        exact ⟨ret_bool HZ.out.symm, rfl⟩
    · have : k = n := by omega
      subst this
      have HZ : Hid (thOk p = betweenB (k : Int) 1 12) := by
        show _ = _
        have := he.out
        rw [List.drop_eq_nil_of_le (by omega)] at this
        rw [hth.out, ← this]; rfl
      clear he hR hth hr hlen
      go_wp2_with (go_at_call 47; refine (between_any _ _ _ _).mono ?_; rintro e w' ⟨rfl, rfl⟩)
      go_ret
      exact ⟨ret_bool HZ.out.symm, rfl⟩
theorem l02List_any (A : Option Addr) (n c : Nat) (p : List Int) (w : World) (hn : n ≤ 1099511627776) (hr : Rd w w.heap.size 1 A n (ints p)) :
    Calls Try.prog 59 #[.slice A n c] w fun e w' => e = .returned (.bool (thOk p)) ∧ w = w' := by
  have hlen := hr.len
  obtain ⟨R, hR⟩ : ∃ R, (p.drop 0).all (betweenB · 0 15) = R := ⟨_, rfl⟩
  have hR := hid hR
  have hth : Hid (thOk p = (R && betweenB (n : Int) 1 12)) := by show _ = _; rw [← hR.out, thOk, hlen]; simp
  go_enter Try.func59, Try.ntmps59
  go_wp2
  go_loop [3] (fun i => ∃ k : Nat, k ≤ n ∧ i = .int .i64 k ∧ Hid ((p.drop k).all (betweenB · 0 15) = R)) (fun i => n - (intOf i).toNat)
  case atStart => exact ⟨0, Nat.zero_le _, rfl, hR⟩
  case round =>
    obtain ⟨k, hk, rfl, he⟩ := hrel
    by_cases hlt : k < n
    · obtain ⟨b, off, x, rfl, hb, hx, hd, hc⟩ := hr.at_ hlt
      by_cases hx2 : betweenB x 0 15 = true
      · have HZ := hid (all_step _ he.out hd hx2)
        clear he hR hth hx hd hb hr hlen
        go_wp2_with (go_at_call 49; refine (l00In_any _ _ _ _).mono ?_; rintro e w' ⟨rfl, rfl⟩)
        go_round
        case rel => exact ⟨k + 1, by omega, by go_num, HZ⟩
        case measure => simp [intOf]; omega
      · have hx2 : betweenB x 0 15 = false := by simpa using hx2
        have hF := all_stop _ he.out hd hx2
        have HZ : Hid (thOk p = false) := by show _ = _; rw [hth.out, hF]; rfl
        clear he hR hth hx hd hb hr hlen hF
        go_wp2_with (go_at_call 49; refine (l00In_any _ _ _ _).mono ?_; rintro e w' ⟨rfl, rfl⟩)
        go_ret
        exact ⟨ret_bool HZ.out.symm, rfl⟩
    · have : k = n := by omega
      subst this
      have HZ : Hid (thOk p = betweenB (k : Int) 1 12) := by
        show _ = _
        have := he.out
        rw [List.drop_eq_nil_of_le (by omega)] at this
        rw [hth.out, ← this]; rfl
      clear he hR hth hr hlen
      go_wp2_with (go_at_call 49; refine (l00In_any _ _ _ _).mono ?_; rintro e w' ⟨rfl, rfl⟩)
      go_ret
      exact ⟨ret_bool HZ.out.symm, rfl⟩
theorem period_any (A : Option Addr) (n c : Nat) (w : World) (hn : n ≤ 1099511627776) :
    Calls Try.prog 62 #[.slice A n c] w fun e w' => e = .returned (.int .i64 (n : Int)) ∧ w = w' := by
  go_enter Try.func62, Try.ntmps62
  go_wp2
  go_ret
  exact ⟨rfl, rfl⟩
end Go.Proofs.Ytegapfkmgfcolaa
