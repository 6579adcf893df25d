/- The contract of spec.SameSync as one that only draws. -/
import Derived.Test.YtjagejalchfhlaaYe
namespace Go.Proofs.Ytjagejalchfhlaa
open Go.RowKit
set_option linter.unusedVariables false

theorem drew0 (w : World) : w = w.drewN 0 := rfl
theorem specSameSync_quiet (A A' : Option Addr) (n n' c c' : Nat) (xs ys : List Beat) (w : World) (hn : n ≤ 1099511627776) (hn' : n' ≤ 1099511627776) (h : Rd w w.heap.size 4 A n (bts xs)) (h' : Rd w w.heap.size 4 A' n' (bts ys)) :
    Calls Try.prog 22 #[.slice A n c, .slice A' n' c'] w fun e w' => e = .returned (.bool (decide (xs = ys))) ∧ ∃ m, w' = w.drewN m := by
  have hl := h.bt_len
  have hl' := h'.bt_len
  by_cases hnn : n = n'
  · subst hnn
    have hst : Hid (decide (xs.drop 0 = ys.drop 0) = decide (xs = ys)) := rfl
    go_enter Try.func22, Try.ntmps22
    go_wp2
    go_loopw [5] (fun i wr => ∃ k : Nat, k ≤ n ∧ i = .int .i64 k ∧ Hid (decide (xs.drop k = ys.drop k) = decide (xs = ys)) ∧ ∃ m, wr = w.drewN m) (fun i _ => n - (intOf i).toNat)
    case atStart => exact ⟨0, Nat.zero_le _, rfl, hst, 0, by rw [← drew0]⟩
    case round =>
    obtain ⟨k, hk, rfl, he, m, hw⟩ := hrel
    have hR1 : Rd wr w.heap.size 4 A n (bts xs) := by rw [hw]; exact h
    have hR2 : Rd wr w.heap.size 4 A' n (bts ys) := by rw [hw]; exact h'
    have HW := hid hw
    clear hw
    by_cases hlt : k < n
    · obtain ⟨b, off, x, rfl, hb, hx, hd, c0, c1, c2, c3⟩ := hR1.bt_at hlt
      obtain ⟨b', off', x', rfl, hb', hx', hd', d0, d1, d2, d3⟩ := hR2.bt_at hlt
      obtain ⟨⟨x1, x2⟩, ⟨x3, x4⟩⟩ := x
      obtain ⟨⟨y1, y2⟩, ⟨y3, y4⟩⟩ := x'
      by_cases hxx : (((x1, x2), (x3, x4)) : Beat) = ((y1, y2), (y3, y4))
      · have HZ : Hid (decide (xs.drop (k + 1) = ys.drop (k + 1)) = decide (xs = ys)) := by
          show _ = _
          rw [← he.out, hd, hd', hxx]; simp
        injection hxx with h1 h2
        injection h1 with h1 h3
        injection h2 with h2 h4
        subst h1 h2 h3 h4
        clear hx hx' hd hd' he hst h h' hb hb' hR1 hR2 hl hl'
        go_wp2
        go_quiet (fail)
        go_wp2
        go_roundw
        case rel => exact ⟨k + 1, by omega, by go_num, HZ, _, by rw [HW.out, World.drewN_drewN]⟩
        case measure => simp [intOf]; omega
      · have HZ : Hid (decide (xs = ys) = false) := by
          show _ = _
          rw [← he.out, hd, hd']
          refine decide_eq_false fun e => hxx ?_
          injection e
        rcases beat_ne hxx with h1 | ⟨h1, h2⟩ | ⟨h1, h2, h3⟩ | ⟨h1, h2, h3, h4⟩
        · have hq : (x1 == y1) = false := by simpa using h1
          clear hx hx' hd hd' he hst h h' hb hb' hR1 hR2 hl hl' hxx h1
          go_wp2
          go_quiet (fail)
          go_wp2
          go_ret
          exact ⟨ret_bool HZ.out.symm, by first | exact ⟨_, by rw [HW.out, World.drewN_drewN]⟩ | exact ⟨_, HW.out⟩ | exact ⟨0, drew0 _⟩⟩
        · have hq : (x2 == y2) = false := by simpa using h2
          subst h1
          clear hx hx' hd hd' he hst h h' hb hb' hR1 hR2 hl hl' hxx h2
          go_wp2
          go_quiet (fail)
          go_wp2
          go_ret
          exact ⟨ret_bool HZ.out.symm, by first | exact ⟨_, by rw [HW.out, World.drewN_drewN]⟩ | exact ⟨_, HW.out⟩ | exact ⟨0, drew0 _⟩⟩
        · have hq : (x3 == y3) = false := by simpa using h3
          subst h1 h2
          clear hx hx' hd hd' he hst h h' hb hb' hR1 hR2 hl hl' hxx h3
          go_wp2
          go_quiet (fail)
          go_wp2
          go_ret
          exact ⟨ret_bool HZ.out.symm, by first | exact ⟨_, by rw [HW.out, World.drewN_drewN]⟩ | exact ⟨_, HW.out⟩ | exact ⟨0, drew0 _⟩⟩
        · have hq : (x4 == y4) = false := by simpa using h4
          subst h1 h2 h3
          clear hx hx' hd hd' he hst h h' hb hb' hR1 hR2 hl hl' hxx h4
          go_wp2
          go_quiet (fail)
          go_wp2
          go_ret
          exact ⟨ret_bool HZ.out.symm, by first | exact ⟨_, by rw [HW.out, World.drewN_drewN]⟩ | exact ⟨_, HW.out⟩ | exact ⟨0, drew0 _⟩⟩
    · have HZ : Hid (decide (xs = ys) = true) := by
        show _ = _
        rw [← he.out, List.drop_eq_nil_of_le (by omega), List.drop_eq_nil_of_le (by omega)]; rfl
      clear he hst hl hl' h h' hR1 hR2
      go_wp2
      go_ret
      exact ⟨ret_bool HZ.out.symm, by first | exact ⟨_, by rw [HW.out, World.drewN_drewN]⟩ | exact ⟨_, HW.out⟩ | exact ⟨0, drew0 _⟩⟩
  · have HZ : Hid (decide (xs = ys) = false) := by
      show _ = _
      refine decide_eq_false fun e => hnn ?_
      rw [← hl, ← hl', e]
    clear hl hl' h h'
    go_enter Try.func22, Try.ntmps22
    go_wp2
    go_ret
    exact ⟨ret_bool HZ.out.symm, by first | exact ⟨_, by rw [HW.out, World.drewN_drewN]⟩ | exact ⟨_, HW.out⟩ | exact ⟨0, drew0 _⟩⟩
end Go.Proofs.Ytjagejalchfhlaa
