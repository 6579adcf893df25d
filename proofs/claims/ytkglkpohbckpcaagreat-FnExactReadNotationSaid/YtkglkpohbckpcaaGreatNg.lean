/- Contracts of the functions on kinds and characters of notations. -/
import Derived.Test.YtkglkpohbckpcaaGreatNe
import Derived.Test.YtkglkpohbckpcaaGreatPt
import Derived.Test.YtkglkpohbckpcaaGreatHx
import Derived.Deep.QuietTactic
import Derived.BigQuiet
namespace Go.Proofs.YtkglkpohbckpcaaGreat
open Go.RowKit
set_option linter.unusedVariables false

theorem u8x {x c : UInt8} : (((x.toNat : Int)) == (c.toNat : Int)) = decide (x = c) := by
  rw [Bool.eq_iff_iff]
  simp only [beq_iff_eq, Int.natCast_inj, decide_eq_true_eq]
  exact UInt8.toNat_inj
theorem dec_skip {x c : UInt8} {r : List UInt8} (h : x ≠ c) : decide (c ∈ x :: r) = decide (c ∈ r) := by
  have hc : ¬ c = x := fun e => h e.symm
  simp [hc]
theorem dec_hit {x c : UInt8} {r : List UInt8} (h : x = c) : decide (c ∈ x :: r) = true := by subst h; simp
theorem hasByte_any (s : ByteArray) (c : UInt8) (w : World) (hs : s.size ≤ 1099511627776) :
    Calls Tryz.prog 53 #[.string s, .int .u8 (c.toNat : Int)] w fun e w' => e = .returned (.bool (decide (c ∈ tl s))) ∧ w = w' := by
  have hst : Hid (decide (c ∈ (tl s).drop 0) = decide (c ∈ tl s)) := rfl
  generalize decide (c ∈ tl s) = R at *
  have hu := hid (fun (x : UInt8) => u8x (x := x) (c := c))
  obtain ⟨C, hC⟩ : ∃ C, (c.toNat : Int) = C := ⟨_, rfl⟩
  rw [hC] at hu ⊢
  clear hC
  go_enter Tryz.func53, Tryz.ntmps53
  go_wp2
  go_loop [8] (fun i => Hid (∃ k : Nat, k ≤ s.size ∧ i = .int .i64 k ∧ Hid (decide (c ∈ (tl s).drop k) = R))) (fun i => s.size - (intOf i).toNat)
  case atStart => exact hid ⟨0, Nat.zero_le _, rfl, hst⟩
  case round =>
    obtain ⟨k, hk, rfl, he⟩ := hrel.out
    clear hrel hst
    by_cases hlt : k < s.size
    · have he1 := he.out
      rw [tl_drop s k hlt] at he1
      by_cases hx : s[k]'hlt = c
      · rw [dec_hit hx] at he1
        have hq : (((s[k]'hlt).toNat : Int) == C) = true := by rw [hu.out]; exact decide_eq_true hx
        have HI := hid he1
        clear he hx hu he1
        go_wp2
        go_ret
        exact ⟨ret_bool HI.out, rfl⟩
      · rw [dec_skip hx] at he1
        have HI := hid he1
        have hq : (((s[k]'hlt).toNat : Int) == C) = false := by rw [hu.out]; exact decide_eq_false hx
        clear he hx hu he1
        go_wp2
        go_round
        case rel => exact hid ⟨k + 1, by omega, by go_num, HI⟩
        case measure => simp [intOf]; omega
    · have he1 := he.out
      rw [List.drop_eq_nil_of_le (by rw [tl_len]; omega)] at he1
      have HI : Hid (false = R) := by show _ = _; rw [← he1]; simp
      clear he hu he1
      go_wp2
      go_ret
      exact ⟨ret_bool HI.out, rfl⟩
theorem l07Has_any (s : ByteArray) (c : UInt8) (w : World) (hs : s.size ≤ 1099511627776) :
    Calls Tryz.prog 65 #[.string s, .int .u8 (c.toNat : Int)] w fun e w' => e = .returned (.bool (decide (c ∈ tl s))) ∧ w = w' := by
  have hst : Hid (decide (c ∈ (tl s).drop 0) = decide (c ∈ tl s)) := rfl
  generalize decide (c ∈ tl s) = R at *
  have hu := hid (fun (x : UInt8) => u8x (x := x) (c := c))
  obtain ⟨C, hC⟩ : ∃ C, (c.toNat : Int) = C := ⟨_, rfl⟩
  rw [hC] at hu ⊢
  clear hC
  go_enter Tryz.func65, Tryz.ntmps65
  go_wp2
  go_loop [5] (fun i => Hid (∃ k : Nat, k ≤ s.size ∧ i = .int .i64 k ∧ Hid (decide (c ∈ (tl s).drop k) = R))) (fun i => s.size - (intOf i).toNat)
  case atStart => exact hid ⟨0, Nat.zero_le _, rfl, hst⟩
  case round =>
    obtain ⟨k, hk, rfl, he⟩ := hrel.out
    clear hrel hst
    by_cases hlt : k < s.size
    · have he1 := he.out
      rw [tl_drop s k hlt] at he1
      by_cases hx : s[k]'hlt = c
      · rw [dec_hit hx] at he1
        have hq : (((s[k]'hlt).toNat : Int) == C) = true := by rw [hu.out]; exact decide_eq_true hx
        have HI := hid he1
        clear he hx hu he1
        go_wp2
        go_ret
        exact ⟨ret_bool HI.out, rfl⟩
      · rw [dec_skip hx] at he1
        have HI := hid he1
        have hq : (((s[k]'hlt).toNat : Int) == C) = false := by rw [hu.out]; exact decide_eq_false hx
        clear he hx hu he1
        go_wp2
        go_round
        case rel => exact hid ⟨k + 1, by omega, by go_num, HI⟩
        case measure => simp [intOf]; omega
    · have he1 := he.out
      rw [List.drop_eq_nil_of_le (by rw [tl_len]; omega)] at he1
      have HI : Hid (false = R) := by show _ = _; rw [← he1]; simp
      clear he hu he1
      go_wp2
      go_ret
      exact ⟨ret_bool HI.out, rfl⟩
theorem kinR_4 {l : List UInt8} (h : 60 ∈ l) : kinR l = 4 := by rw [kinR, if_pos h]
theorem kinR_3 {l : List UInt8} (h : 60 ∉ l) (h3 : 40 ∈ l) : kinR l = 3 := by rw [kinR, if_neg h, if_pos h3]
theorem kinR_2 {l : List UInt8} (h : 60 ∉ l) (h3 : 40 ∉ l) (h2 : 91 ∈ l) : kinR l = 2 := by rw [kinR, if_neg h, if_neg h3, if_pos h2]
theorem kinR_1 {l : List UInt8} (h : 60 ∉ l) (h3 : 40 ∉ l) (h2 : 91 ∉ l) : kinR l = 1 := by rw [kinR, if_neg h, if_neg h3, if_neg h2]
theorem KindOfText_any (s : ByteArray) (w : World) (hs : s.size ≤ 1099511627776) :
    Calls Tryz.prog 26 #[.string s] w fun e w' => e = .returned (.int .i64 (kinR (tl s) : Nat)) ∧ w = w' := by
  have h4 : Calls Tryz.prog 53 #[.string s, .int .u8 60] w fun e w' => e = .returned (.bool (decide (60 ∈ tl s))) ∧ w = w' := hasByte_any s 60 w hs
  have h3 : Calls Tryz.prog 53 #[.string s, .int .u8 40] w fun e w' => e = .returned (.bool (decide (40 ∈ tl s))) ∧ w = w' := hasByte_any s 40 w hs
  have h2 : Calls Tryz.prog 53 #[.string s, .int .u8 91] w fun e w' => e = .returned (.bool (decide (91 ∈ tl s))) ∧ w = w' := hasByte_any s 91 w hs
  by_cases k4 : 60 ∈ tl s
  · have HK := hid (kinR_4 k4)
    rw [decide_eq_true k4] at h4
    have h4 := hid h4
    clear h3 h2 k4
    go_enter Tryz.func26, Tryz.ntmps26
    go_wp2_with fail
    refine h4.out.mono ?_
    rintro e w1 ⟨rfl, rfl⟩
    go_wp2
    go_ret
    exact ⟨by rw [HK.out]; rfl, rfl⟩
  · rw [decide_eq_false k4] at h4
    by_cases k3 : 40 ∈ tl s
    · have HK := hid (kinR_3 k4 k3)
      rw [decide_eq_true k3] at h3
      have h4 := hid h4
      have h3 := hid h3
      clear h2 k4 k3
      go_enter Tryz.func26, Tryz.ntmps26
      go_wp2_with fail
      refine h4.out.mono ?_
      rintro e w1 ⟨rfl, rfl⟩
      go_wp2_with fail
      refine h3.out.mono ?_
      rintro e w1 ⟨rfl, rfl⟩
      go_wp2
      go_ret
      exact ⟨by rw [HK.out]; rfl, rfl⟩
    · rw [decide_eq_false k3] at h3
      by_cases k2 : 91 ∈ tl s
      · have HK := hid (kinR_2 k4 k3 k2)
        rw [decide_eq_true k2] at h2
        have h4 := hid h4
        have h3 := hid h3
        have h2 := hid h2
        clear k4 k3 k2
        go_enter Tryz.func26, Tryz.ntmps26
        go_wp2_with fail
        refine h4.out.mono ?_
        rintro e w1 ⟨rfl, rfl⟩
        go_wp2_with fail
        refine h3.out.mono ?_
        rintro e w1 ⟨rfl, rfl⟩
        go_wp2_with fail
        refine h2.out.mono ?_
        rintro e w1 ⟨rfl, rfl⟩
        go_wp2
        go_ret
        exact ⟨by rw [HK.out]; rfl, rfl⟩
      · have HK := hid (kinR_1 k4 k3 k2)
        rw [decide_eq_false k2] at h2
        have h4 := hid h4
        have h3 := hid h3
        have h2 := hid h2
        clear k4 k3 k2
        go_enter Tryz.func26, Tryz.ntmps26
        go_wp2_with fail
        refine h4.out.mono ?_
        rintro e w1 ⟨rfl, rfl⟩
        go_wp2_with fail
        refine h3.out.mono ?_
        rintro e w1 ⟨rfl, rfl⟩
        go_wp2_with fail
        refine h2.out.mono ?_
        rintro e w1 ⟨rfl, rfl⟩
        go_wp2
        go_ret
        exact ⟨by rw [HK.out]; rfl, rfl⟩
theorem specKindOfText_any (s : ByteArray) (w : World) (hs : s.size ≤ 1099511627776) :
    Calls Tryz.prog 20 #[.string s] w fun e w' => e = .returned (.int .i64 (kinR (tl s) : Nat)) ∧ w = w' := by
  have h4 : Calls Tryz.prog 65 #[.string s, .int .u8 60] w fun e w' => e = .returned (.bool (decide (60 ∈ tl s))) ∧ w = w' := l07Has_any s 60 w hs
  have h3 : Calls Tryz.prog 65 #[.string s, .int .u8 40] w fun e w' => e = .returned (.bool (decide (40 ∈ tl s))) ∧ w = w' := l07Has_any s 40 w hs
  have h2 : Calls Tryz.prog 65 #[.string s, .int .u8 91] w fun e w' => e = .returned (.bool (decide (91 ∈ tl s))) ∧ w = w' := l07Has_any s 91 w hs
  by_cases k4 : 60 ∈ tl s
  · have HK := hid (kinR_4 k4)
    rw [decide_eq_true k4] at h4
    have h4 := hid h4
    clear h3 h2 k4
    go_enter Tryz.func20, Tryz.ntmps20
    go_wp2_with fail
    refine h4.out.mono ?_
    rintro e w1 ⟨rfl, rfl⟩
    go_wp2
    go_ret
    exact ⟨by rw [HK.out]; rfl, rfl⟩
  · rw [decide_eq_false k4] at h4
    by_cases k3 : 40 ∈ tl s
    · have HK := hid (kinR_3 k4 k3)
      rw [decide_eq_true k3] at h3
      have h4 := hid h4
      have h3 := hid h3
      clear h2 k4 k3
      go_enter Tryz.func20, Tryz.ntmps20
      go_wp2_with fail
      refine h4.out.mono ?_
      rintro e w1 ⟨rfl, rfl⟩
      go_wp2_with fail
      refine h3.out.mono ?_
      rintro e w1 ⟨rfl, rfl⟩
      go_wp2
      go_ret
      exact ⟨by rw [HK.out]; rfl, rfl⟩
    · rw [decide_eq_false k3] at h3
      by_cases k2 : 91 ∈ tl s
      · have HK := hid (kinR_2 k4 k3 k2)
        rw [decide_eq_true k2] at h2
        have h4 := hid h4
        have h3 := hid h3
        have h2 := hid h2
        clear k4 k3 k2
        go_enter Tryz.func20, Tryz.ntmps20
        go_wp2_with fail
        refine h4.out.mono ?_
        rintro e w1 ⟨rfl, rfl⟩
        go_wp2_with fail
        refine h3.out.mono ?_
        rintro e w1 ⟨rfl, rfl⟩
        go_wp2_with fail
        refine h2.out.mono ?_
        rintro e w1 ⟨rfl, rfl⟩
        go_wp2
        go_ret
        exact ⟨by rw [HK.out]; rfl, rfl⟩
      · have HK := hid (kinR_1 k4 k3 k2)
        rw [decide_eq_false k2] at h2
        have h4 := hid h4
        have h3 := hid h3
        have h2 := hid h2
        clear k4 k3 k2
        go_enter Tryz.func20, Tryz.ntmps20
        go_wp2_with fail
        refine h4.out.mono ?_
        rintro e w1 ⟨rfl, rfl⟩
        go_wp2_with fail
        refine h3.out.mono ?_
        rintro e w1 ⟨rfl, rfl⟩
        go_wp2_with fail
        refine h2.out.mono ?_
        rintro e w1 ⟨rfl, rfl⟩
        go_wp2
        go_ret
        exact ⟨by rw [HK.out]; rfl, rfl⟩
theorem extras_any (k : Nat) (hk : k = 1 ∨ k = 2 ∨ k = 3 ∨ k = 4) (w : World) :
    Calls Tryz.prog 54 #[.int .i64 (k : Int)] w fun e w' => e = .returned (.string (st (exsR k))) ∧ w = w' := by
  rcases hk with rfl | rfl | rfl | rfl
  all_goals
    go_enter Tryz.func54, Tryz.ntmps54
    go_wp2
    go_ret
    exact ⟨rfl, rfl⟩
theorem chOk_dig {k : Nat} {c : UInt8} (h : 0 ≤ rDig (c.toNat : Int)) : chOk k c = true := by simp [chOk, h]
theorem chOk_ex {k : Nat} {c : UInt8} (h : ¬ 0 ≤ rDig (c.toNat : Int)) : chOk k c = decide (c ∈ exsR k) := by simp [chOk, h]
theorem l07Char_any (k : Nat) (hk : k = 1 ∨ k = 2 ∨ k = 3 ∨ k = 4) (c : UInt8) (w : World) :
    Calls Tryz.prog 58 #[.int .i64 (k : Int), .int .u8 (c.toNat : Int)] w fun e w' => e = .returned (.bool (chOk k c)) ∧ w = w' := by
  have hby : (c.toNat : Int) ≤ 255 := by have := c.toNat_lt; omega
  have hby0 : 0 ≤ (c.toNat : Int) := by omega
  have hD := l04Value_any (c.toNat : Int) hby0 hby w
  by_cases hd : 0 ≤ rDig (c.toNat : Int)
  · have HZ := hid (chOk_dig (k := k) hd)
    generalize rDig (c.toNat : Int) = d at *
    generalize (c.toNat : Int) = C at *
    have hD := hid hD
    go_enter Tryz.func58, Tryz.ntmps58
    go_wp2_with (go_at_call 99; refine (hD.out).mono ?_; rintro e w' ⟨rfl, rfl⟩)
    go_ret
    exact ⟨ret_bool HZ.out.symm, rfl⟩
  · have HZ := hid (chOk_ex (k := k) hd)
    rcases hk with rfl | rfl | rfl | rfl
    · generalize rDig (c.toNat : Int) = d at *
      generalize (c.toNat : Int) = C at *
      have hD := hid hD
      go_enter Tryz.func58, Tryz.ntmps58
      go_wp2_with (go_at_call 99; refine (hD.out).mono ?_; rintro e w' ⟨rfl, rfl⟩)
      go_ret
      exact ⟨by rw [HZ.out]; simp [exsR], rfl⟩
    · have hH := l07Has_any (st (exsR 2)) c w (by rw [st_size]; decide)
      rw [tl_st, ← HZ.out] at hH
      generalize rDig (c.toNat : Int) = d at *
      generalize (c.toNat : Int) = C at *
      have hD := hid hD
      have hH := hid hH
      go_enter Tryz.func58, Tryz.ntmps58
      go_wp2_with (first | (go_at_call 99; refine (hD.out).mono ?_; rintro e w' ⟨rfl, rfl⟩) | (go_at_call 65; refine (hH.out).mono ?_; rintro e w' ⟨rfl, rfl⟩))
      go_ret
      exact ⟨rfl, rfl⟩
    · have hH := l07Has_any (st (exsR 3)) c w (by rw [st_size]; decide)
      rw [tl_st, ← HZ.out] at hH
      generalize rDig (c.toNat : Int) = d at *
      generalize (c.toNat : Int) = C at *
      have hD := hid hD
      have hH := hid hH
      go_enter Tryz.func58, Tryz.ntmps58
      go_wp2_with (first | (go_at_call 99; refine (hD.out).mono ?_; rintro e w' ⟨rfl, rfl⟩) | (go_at_call 65; refine (hH.out).mono ?_; rintro e w' ⟨rfl, rfl⟩))
      go_ret
      exact ⟨rfl, rfl⟩
    · have hH := l07Has_any (st (exsR 4)) c w (by rw [st_size]; decide)
      rw [tl_st, ← HZ.out] at hH
      generalize rDig (c.toNat : Int) = d at *
      generalize (c.toNat : Int) = C at *
      have hD := hid hD
      have hH := hid hH
      go_enter Tryz.func58, Tryz.ntmps58
      go_wp2_with (first | (go_at_call 99; refine (hD.out).mono ?_; rintro e w' ⟨rfl, rfl⟩) | (go_at_call 65; refine (hH.out).mono ?_; rintro e w' ⟨rfl, rfl⟩))
      go_ret
      exact ⟨rfl, rfl⟩
end Go.Proofs.YtkglkpohbckpcaaGreat
