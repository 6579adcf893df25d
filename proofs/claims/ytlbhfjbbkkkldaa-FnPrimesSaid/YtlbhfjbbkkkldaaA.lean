/- Contracts of the small functions of numbers and states. -/
import Derived.Test.YtlbhfjbbkkkldaaProg
import Derived.Test.YtlbhfjbbkkkldaaKit
namespace Go.Proofs.Ytlbhfjbbkkkldaa
open Go.RowKit
set_option linter.unusedVariables false


theorem between_any (n l h : Int) (w : World) :
    Calls Try.prog 122 #[.int .i64 n, .int .i64 l, .int .i64 h] w fun e w' => e = .returned (.bool (betweenB n l h)) ∧ w = w' := by
  unfold betweenB
  go_enter Try.func122, Try.ntmps122
  go_wp2
  all_goals (go_ret; exact ⟨by simp_all; try omega, rfl⟩)
theorem l00In_any (n l h : Int) (w : World) :
    Calls Try.prog 95 #[.int .i64 n, .int .i64 l, .int .i64 h] w fun e w' => e = .returned (.bool (betweenB n l h)) ∧ w = w' := by
  unfold betweenB
  go_enter Try.func95, Try.ntmps95
  go_wp2
  all_goals (go_ret; exact ⟨by simp_all; try omega, rfl⟩)

/-- The state is valid. -/
def stOk (h m : Int) : Bool := betweenB h 1 10 && betweenB m 0 (2 ^ h.toNat - 1)
theorem stOk_iff {h m : Int} (k : stOk h m = true) : 1 ≤ h ∧ h ≤ 10 ∧ 0 ≤ m ∧ m ≤ 2 ^ h.toNat - 1 ∧ m ≤ 1023 := by
  simp only [stOk, Bool.and_eq_true, betweenB_iff] at k
  refine ⟨k.1.1, k.1.2, k.2.1, k.2.2, Int.le_trans k.2.2 ?_⟩
  have h1 := k.1
  have : (2 : Int) ^ h.toNat ≤ 1024 := by
    have h2 : h = 1 ∨ h = 2 ∨ h = 3 ∨ h = 4 ∨ h = 5 ∨ h = 6 ∨ h = 7 ∨ h = 8 ∨ h = 9 ∨ h = 10 := by omega
    rcases h2 with h2 | h2 | h2 | h2 | h2 | h2 | h2 | h2 | h2 | h2 <;> subst h2 <;> decide
  omega

theorem pow_wrap (h : Int) (h0 : 0 ≤ h) (h1 : h ≤ 62) : wrap64 (2 ^ h.toNat) = 2 ^ h.toNat ∧ (1 : Int) ≤ 2 ^ h.toNat ∧ (2 : Int) ^ h.toNat ≤ 4611686018427387904 := by
  obtain ⟨k, rfl⟩ := Int.eq_ofNat_of_zero_le h0
  have a : (2 : Nat) ^ k ≤ 2 ^ 62 := Nat.pow_le_pow_right (by omega) (by omega)
  have b : 1 ≤ (2 : Nat) ^ k := Nat.one_le_two_pow
  have e : ((2 : Int) ^ ((k : Int)).toNat) = ((2 ^ k : Nat) : Int) := by simp
  rw [e]
  generalize (2 : Nat) ^ k = q at *
  exact ⟨IntWalk.wrap64_in _ (by omega), by omega, by omega⟩


/-- Whether bit t is set. -/
def bitB (m t : Int) : Bool := bits BinOp.and IntKind.i64 (m / 2 ^ t.toNat) 1 == 1

theorem l08Bit_any (m t : Int) (w : World) (ht : 0 ≤ t) (ht2 : t ≤ 62) :
    Calls Try.prog 219 #[.int .i64 m, .int .i64 t] w fun e w' => e = .returned (.bool (bitB m t)) ∧ w = w' := by
  go_enter Try.func219, Try.ntmps219
  go_wp2
  go_ret
  exact ⟨rfl, rfl⟩

/-- Whether a throw is possible. -/
def canB (h m t : Int) : Bool := if t = 0 then !bitB m 0 else betweenB t 1 h && bitB m 0 && !bitB m t
theorem canB_zero (h m : Int) : canB h m 0 = !bitB m 0 := by simp [canB]
theorem canB_no (h m t : Int) (ht : t ≠ 0) (k : betweenB t 1 h = false) : canB h m t = false := by simp [canB, ht, k]
theorem canB_no0 (h m t : Int) (ht : t ≠ 0) (k : bitB m 0 = false) : canB h m t = false := by simp [canB, ht, k]
theorem canB_yes (h m t : Int) (ht : t ≠ 0) (k : betweenB t 1 h = true) (k2 : bitB m 0 = true) : canB h m t = !bitB m t := by simp [canB, ht, k, k2]

theorem l08Can_any (h m t : Int) (w : World) (hh : h ≤ 62) :
    Calls Try.prog 217 #[.agg #[.int .i64 h, .int .i64 m], .int .i64 t] w fun e w' => e = .returned (.bool (canB h m t)) ∧ Below w.heap.size w w' := by
  by_cases ht : t = 0
  · subst ht
    go_enter Try.func217, Try.ntmps217
    go_wp2_with (go_at_call 219; refine (l08Bit_any _ _ _ (by omega) (by omega)).mono ?_; rintro e w' ⟨rfl, rfl⟩)
    go_ret
    exact ⟨ret_bool (canB_zero _ _).symm, (by repeat' (first | exact Below.refl _ _ | (with_reducible assumption) | (with_reducible refine Below.alloc ?_ ?_ _) | (with_reducible refine Below.setCell ?_ ?_ _) | (with_reducible refine Below.drew ?_) | (with_reducible refine below_drewN ?_ _) | (refine Below.trans ?_ (Below.mono (by assumption) ?_)) | (with_reducible exact Nat.le_refl _) | (with_reducible assumption) | (exact Below.size (by assumption)) | omega | go_size | (simp at *; omega)))⟩
  · have ht' : (t == 0) = false := by simpa using ht
    by_cases h0 : bitB m 0 = true
    · by_cases hb : betweenB t 1 h = true
      · obtain ⟨b1, b2⟩ := (betweenB_iff _ _ _).1 hb
        have hs := hid (canB_yes h m t ht hb h0)
        go_enter Try.func217, Try.ntmps217
        go_wp2_with (first | (go_at_call 95; refine (l00In_any _ _ _ _).mono ?_; rintro e w' ⟨rfl, rfl⟩) | (go_at_call 219; refine (l08Bit_any _ _ _ (by omega) (by omega)).mono ?_; rintro e w' ⟨rfl, rfl⟩))
        go_ret
        exact ⟨ret_bool hs.out.symm, (by repeat' (first | exact Below.refl _ _ | (with_reducible assumption) | (with_reducible refine Below.alloc ?_ ?_ _) | (with_reducible refine Below.setCell ?_ ?_ _) | (with_reducible refine Below.drew ?_) | (with_reducible refine below_drewN ?_ _) | (refine Below.trans ?_ (Below.mono (by assumption) ?_)) | (with_reducible exact Nat.le_refl _) | (with_reducible assumption) | (exact Below.size (by assumption)) | omega | go_size | (simp at *; omega)))⟩
      · have hb : betweenB t 1 h = false := by simpa using hb
        have hs := hid (canB_no h m t ht hb)
        go_enter Try.func217, Try.ntmps217
        go_wp2_with (first | (go_at_call 95; refine (l00In_any _ _ _ _).mono ?_; rintro e w' ⟨rfl, rfl⟩) | (go_at_call 219; refine (l08Bit_any _ _ _ (by omega) (by omega)).mono ?_; rintro e w' ⟨rfl, rfl⟩))
        go_ret
        exact ⟨ret_bool hs.out.symm, (by repeat' (first | exact Below.refl _ _ | (with_reducible assumption) | (with_reducible refine Below.alloc ?_ ?_ _) | (with_reducible refine Below.setCell ?_ ?_ _) | (with_reducible refine Below.drew ?_) | (with_reducible refine below_drewN ?_ _) | (refine Below.trans ?_ (Below.mono (by assumption) ?_)) | (with_reducible exact Nat.le_refl _) | (with_reducible assumption) | (exact Below.size (by assumption)) | omega | go_size | (simp at *; omega)))⟩
    · have h0 : bitB m 0 = false := by simpa using h0
      have hs := hid (canB_no0 h m t ht h0)
      go_enter Try.func217, Try.ntmps217
      go_wp2_with (first | (go_at_call 95; refine (l00In_any _ _ _ _).mono ?_; rintro e w' ⟨rfl, rfl⟩) | (go_at_call 219; refine (l08Bit_any _ _ _ (by omega) (by omega)).mono ?_; rintro e w' ⟨rfl, rfl⟩))
      go_ret
      exact ⟨ret_bool hs.out.symm, (by repeat' (first | exact Below.refl _ _ | (with_reducible assumption) | (with_reducible refine Below.alloc ?_ ?_ _) | (with_reducible refine Below.setCell ?_ ?_ _) | (with_reducible refine Below.drew ?_) | (with_reducible refine below_drewN ?_ _) | (refine Below.trans ?_ (Below.mono (by assumption) ?_)) | (with_reducible exact Nat.le_refl _) | (with_reducible assumption) | (exact Below.size (by assumption)) | omega | go_size | (simp at *; omega)))⟩

/-- The mask after a throw. -/
def nextM (m t : Int) : Int := if 0 < t then bits BinOp.or IntKind.i64 (m / 2) (2 ^ (t.toNat - 1)) else m / 2
theorem nextM_pos (m t : Int) (h : 0 < t) : nextM m t = bits BinOp.or IntKind.i64 (m / 2) (2 ^ (t.toNat - 1)) := by simp [nextM, h]
theorem nextM_not (m t : Int) (h : ¬ 0 < t) : nextM m t = m / 2 := by simp [nextM, h]
theorem ret_st {a b c d : Int} (h : b = d) (h2 : a = c) : Ending.returned (.agg #[.int .i64 a, .int .i64 b]) = .returned (.agg #[.int .i64 c, .int .i64 d]) := by rw [h, h2]

theorem l08Next_any (h m t : Int) (w : World) (ht : t ≤ 60) (hm : 0 ≤ m) :
    Calls Try.prog 207 #[.agg #[.int .i64 h, .int .i64 m], .int .i64 t] w fun e w' => e = .returned (.agg #[.int .i64 h, .int .i64 (nextM m t)]) ∧ Below w.heap.size w w' := by
  by_cases k : 0 < t
  · have hs := hid (nextM_pos m t k)
    obtain ⟨p1, p2, p3⟩ := pow_wrap (t - 1) (by omega) (by omega)
    have e : (t - 1).toNat = t.toNat - 1 := by omega
    rw [e] at p1 p2 p3
    clear e
    go_enter Try.func207, Try.ntmps207
    go_wp2
    exact bodyPost_ret (v := .agg #[.int .i64 h, .int .i64 (nextM m t)]) (by rw [hs.out]; simp [results, Try.results207, go_sem]) rfl ⟨rfl, (by repeat' (first | exact Below.refl _ _ | (with_reducible assumption) | (with_reducible refine Below.alloc ?_ ?_ _) | (with_reducible refine Below.setCell ?_ ?_ _) | (with_reducible refine Below.drew ?_) | (with_reducible refine below_drewN ?_ _) | (refine Below.trans ?_ (Below.mono (by assumption) ?_)) | (with_reducible exact Nat.le_refl _) | (with_reducible assumption) | (exact Below.size (by assumption)) | omega | go_size | (simp at *; omega)))⟩
  · have hs := hid (nextM_not m t k)
    go_enter Try.func207, Try.ntmps207
    go_wp2
    exact bodyPost_ret (v := .agg #[.int .i64 h, .int .i64 (nextM m t)]) (by rw [hs.out]; simp [results, Try.results207, go_sem]) rfl ⟨rfl, (by repeat' (first | exact Below.refl _ _ | (with_reducible assumption) | (with_reducible refine Below.alloc ?_ ?_ _) | (with_reducible refine Below.setCell ?_ ?_ _) | (with_reducible refine Below.drew ?_) | (with_reducible refine below_drewN ?_ _) | (refine Below.trans ?_ (Below.mono (by assumption) ?_)) | (with_reducible exact Nat.le_refl _) | (with_reducible assumption) | (exact Below.size (by assumption)) | omega | go_size | (simp at *; omega)))⟩

theorem canB_le {h m t : Int} (k : stOk h m = true) (c : canB h m t = true) : t ≤ 10 := by
  have := stOk_iff k
  by_cases e : t = 0
  · omega
  · simp only [canB, e, if_false, Bool.and_eq_true, betweenB_iff] at c; omega

/-- What NextState gives: the state and a code. -/
def nextSt (h m t : Int) : Int × Int × Int := if stOk h m then (if canB h m t then (h, nextM m t, 0) else (0, 0, 6)) else (0, 0, 1)
def stRes (r : Int × Int × Int) : Value := .tuple #[.agg #[.int .i64 r.1, .int .i64 r.2.1], .int .i64 r.2.2]

end Go.Proofs.Ytlbhfjbbkkkldaa
