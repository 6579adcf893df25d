/- Contracts of the sums of throws and of AverageOf, and the walk of its law. -/
import Derived.Test.YtegapfkmgfcolaaT
namespace Go.Proofs.Ytegapfkmgfcolaa
open Go.RowKit
set_option linter.unusedVariables false

/-- The sum of a list. -/
def sumL : List Int → Int
  | [] => 0
  | x :: xs => x + sumL xs
theorem sumL_bd : ∀ (xs : List Int), (∀ x ∈ xs, 0 ≤ x ∧ x ≤ 15) → 0 ≤ sumL xs ∧ sumL xs ≤ 15 * (xs.length : Int) := by
  intro xs
  induction xs with
  | nil => intro _; simp [sumL]
  | cons x xs ih =>
    intro h
    have h1 := h x List.mem_cons_self
    have h2 := ih (fun y hy => h y (List.mem_cons_of_mem _ hy))
    simp only [sumL, List.length_cons]; omega
theorem l02Sum_any (A : Option Addr) (n c : Nat) (p : List Int) (w : World) (hp : thOk p = true) (hr : Rd w w.heap.size 1 A n (ints p)) :
    Calls Try.prog 60 #[.slice A n c] w fun e w' => e = .returned (.int .i64 (sumL p)) ∧ w = w' := by
  have hlen := hr.len
  obtain ⟨q1, q2, q3⟩ := thOk_iff hp
  have hst : Hid ((0 : Int) + sumL (p.drop 0) = sumL p) := by show _ = _; simp
  have Q := hid q1
  have hn1 : 1 ≤ n := by omega
  have hn2 : n ≤ 12 := by omega
  generalize sumL p = R at *
  clear q1 q2 q3 hp
  go_enter Try.func60, Try.ntmps60
  go_wp2
  go_loop [3, 4] (fun v i => ∃ (k : Nat) (m : Int), k ≤ n ∧ i = .int .i64 k ∧ v = .int .i64 m ∧ 0 ≤ m ∧ m ≤ 15 * (k : Int) ∧ Hid (m + sumL (p.drop k) = R)) (fun _ i => n - (intOf i).toNat)
  case atStart => exact ⟨0, 0, Nat.zero_le _, rfl, rfl, by omega, by omega, hst⟩
  case round =>
    obtain ⟨k, m, hk, rfl, rfl, m0, m1, he⟩ := hrel
    by_cases hlt : k < n
    · obtain ⟨b, off, x, rfl, hb, hx, hd, hc⟩ := hr.at_ hlt
      obtain ⟨x0, x1⟩ := Q.out x (List.mem_of_getElem? hx)
      have HZ : Hid ((m + x) + sumL (p.drop (k + 1)) = R) := by show _ = _; rw [← he.out, hd, sumL]; omega
      clear he hst hx hd hb hr hlen
      go_wp2
      go_round
      case rel => exact ⟨k + 1, m + x, by omega, by go_num, rfl, by omega, by omega, HZ⟩
      case measure => simp [intOf]; omega
    · have HZ : Hid (m = R) := by
        show _ = _
        rw [← he.out, List.drop_eq_nil_of_le (by omega), sumL]; omega
      clear he hst hr hlen
      go_wp2
      go_ret
      exact ⟨ret_int HZ.out, rfl⟩
/-- What AverageOf gives. -/
def rAverageOf (p : List Int) : Int × Bool × Int := if thOk p then (sumL p / (p.length : Int), (sumL p % (p.length : Int) == 0), 0) else (0, false, 1)
theorem AverageOf_any (A : Option Addr) (n c : Nat) (p : List Int) (w : World) (hn : n ≤ 1099511627776) (hr : Rd w w.heap.size 1 A n (ints p)) :
    Calls Try.prog 40 #[.slice A n c] w fun e w' => e = .returned (.tuple #[.int .i64 (rAverageOf p).1, .bool (rAverageOf p).2.1, .int .i64 (rAverageOf p).2.2]) ∧ Below w.heap.size w w' := by
  have hV := areThrows_any A n c p w hn hr
  have hlen := hr.len
  by_cases k : thOk p = true
  · rw [k] at hV
    have hV := hid hV
    obtain ⟨q1, q2, q3⟩ := thOk_iff k
    have hst : Hid ((0 : Int) + sumL (p.drop 0) = sumL p) := by show _ = _; simp
    have Q := hid q1
    have hn1 : 1 ≤ n := by omega
    have hn2 : n ≤ 12 := by omega
    have hs : Hid (rAverageOf p = (sumL p / (n : Int), (sumL p % (n : Int) == 0), 0)) := by show _ = _; simp [rAverageOf, k, hlen]
    generalize sumL p = R at *
    clear q1 q2 q3 k
    go_enter Try.func40, Try.ntmps40
    go_wp2_with (go_at_call 61; refine (hV.out).mono ?_; rintro e w' ⟨rfl, rfl⟩)
    go_loop [5, 13] (fun v i => ∃ (k : Nat) (m : Int), k ≤ n ∧ i = .int .i64 k ∧ v = .int .i64 m ∧ 0 ≤ m ∧ m ≤ 15 * (k : Int) ∧ Hid (m + sumL (p.drop k) = R)) (fun _ i => n - (intOf i).toNat)
    case atStart => exact ⟨0, 0, Nat.zero_le _, rfl, rfl, by omega, by omega, hst⟩
    case round =>
      obtain ⟨k, m, hk, rfl, rfl, m0, m1, he⟩ := hrel
      by_cases hlt : k < n
      · obtain ⟨b, off, x, rfl, hb, hx, hd, hc⟩ := hr.at_ hlt
        obtain ⟨x0, x1⟩ := Q.out x (List.mem_of_getElem? hx)
        have HZ : Hid ((m + x) + sumL (p.drop (k + 1)) = R) := by show _ = _; rw [← he.out, hd, sumL]; omega
        clear he hst hx hd hb hr hlen
        go_wp2
        go_round
        case rel => exact ⟨k + 1, m + x, by omega, by go_num, rfl, by omega, by omega, HZ⟩
        case measure => simp [intOf]; omega
      · have hmR : m = R := by
          rw [← he.out, List.drop_eq_nil_of_le (by omega), sumL]; omega
        subst hmR
        clear he hst hr hlen
        go_wp2_with (go_at_call 62; refine (period_any _ _ _ _ (by omega)).mono ?_; rintro e w' ⟨rfl, rfl⟩)
        go_quiet ((go_at_call 62; exact quiet_same (period_any _ _ _ _ (by omega))))
        go_wp2
        go_ret3
        exact ⟨by rw [hs.out]; rfl, (by repeat' (first | exact Below.refl _ _ | (with_reducible assumption) | (with_reducible refine Below.alloc ?_ ?_ _) | (with_reducible refine Below.setCell ?_ ?_ _) | (with_reducible refine Below.drew ?_) | (with_reducible refine below_drewN ?_ _) | (refine Below.trans ?_ (Below.mono (by assumption) ?_)) | (with_reducible exact Nat.le_refl _) | (with_reducible assumption) | (exact Below.size (by assumption)) | omega | go_size | (simp at *; omega)))⟩
  · have k : thOk p = false := by simpa using k
    rw [k] at hV
    have hV := hid hV
    have hs : Hid (rAverageOf p = (0, false, 1)) := by show _ = _; simp [rAverageOf, k]
    clear k hr hlen
    go_enter Try.func40, Try.ntmps40
    go_wp2_with (go_at_call 61; refine (hV.out).mono ?_; rintro e w' ⟨rfl, rfl⟩)
    go_ret3
    exact ⟨by rw [hs.out]; rfl, (by repeat' (first | exact Below.refl _ _ | (with_reducible assumption) | (with_reducible refine Below.alloc ?_ ?_ _) | (with_reducible refine Below.setCell ?_ ?_ _) | (with_reducible refine Below.drew ?_) | (with_reducible refine below_drewN ?_ _) | (refine Below.trans ?_ (Below.mono (by assumption) ?_)) | (with_reducible exact Nat.le_refl _) | (with_reducible assumption) | (exact Below.size (by assumption)) | omega | go_size | (simp at *; omega)))⟩
theorem specAverageOf_any (A : Option Addr) (n c : Nat) (p : List Int) (w : World) (hn : n ≤ 1099511627776) (hr : Rd w w.heap.size 1 A n (ints p)) :
    Calls Try.prog 38 #[.slice A n c] w fun e w' => e = .returned (.tuple #[.int .i64 (rAverageOf p).1, .bool (rAverageOf p).2.1, .int .i64 (rAverageOf p).2.2]) ∧ Below w.heap.size w w' := by
  have hV := l02List_any A n c p w hn hr
  have hlen := hr.len
  by_cases k : thOk p = true
  · rw [k] at hV
    have hV := hid hV
    obtain ⟨q1, q2, q3⟩ := thOk_iff k
    have hS := hid (fun (w1 : World) (h : Rd w1 w1.heap.size 1 A n (ints p)) => l02Sum_any A n c p w1 k h)
    have hR := hid hr
    obtain ⟨s0, s1⟩ := sumL_bd p q1
    have s2 : sumL p ≤ 180 := by omega
    have hn1 : 1 ≤ n := by omega
    have hn2 : n ≤ 12 := by omega
    have hs : Hid (rAverageOf p = (sumL p / (n : Int), (sumL p % (n : Int) == 0), 0)) := by show _ = _; simp [rAverageOf, k, hlen]
    generalize sumL p = R at *
    clear q1 q2 q3 k hr hlen
    go_enter Try.func38, Try.ntmps38
    go_wp2_with (first | (go_at_call 59; refine (hV.out).mono ?_; rintro e w' ⟨rfl, rfl⟩))
    go_quiet ((go_at_call 60; exact quiet_same (hS.out _ hR.out)))
    go_wp2
    go_ret3
    exact ⟨by rw [hs.out]; rfl, (by repeat' (first | exact Below.refl _ _ | (with_reducible assumption) | (with_reducible refine Below.alloc ?_ ?_ _) | (with_reducible refine Below.setCell ?_ ?_ _) | (with_reducible refine Below.drew ?_) | (with_reducible refine below_drewN ?_ _) | (refine Below.trans ?_ (Below.mono (by assumption) ?_)) | (with_reducible exact Nat.le_refl _) | (with_reducible assumption) | (exact Below.size (by assumption)) | omega | go_size | (simp at *; omega)))⟩
  · have k : thOk p = false := by simpa using k
    rw [k] at hV
    have hV := hid hV
    have hs : Hid (rAverageOf p = (0, false, 1)) := by show _ = _; simp [rAverageOf, k]
    clear k hr hlen
    go_enter Try.func38, Try.ntmps38
    go_wp2_with (go_at_call 59; refine (hV.out).mono ?_; rintro e w' ⟨rfl, rfl⟩)
    go_ret3
    exact ⟨by rw [hs.out]; rfl, (by repeat' (first | exact Below.refl _ _ | (with_reducible assumption) | (with_reducible refine Below.alloc ?_ ?_ _) | (with_reducible refine Below.setCell ?_ ?_ _) | (with_reducible refine Below.drew ?_) | (with_reducible refine below_drewN ?_ _) | (refine Below.trans ?_ (Below.mono (by assumption) ?_)) | (with_reducible exact Nat.le_refl _) | (with_reducible assumption) | (exact Below.size (by assumption)) | omega | go_size | (simp at *; omega)))⟩
theorem fnExactAverageOf_walk (w : World) (aPA : Option Addr) (aPN aPC : Nat) (aP : List Int) (aPK : Came .i64 w aPA aPN aPC aP) :
    Calls Try.prog 12 #[.slice aPA aPN aPC] w fun e w' => e = .returned (.bool true) ∧ Below w.heap.size w w' := by
  by_cases hlong : 1048576 < aPN
  · have hm := aPK.2.1
    go_enter Try.func12, Try.ntmps12
    go_wp2
    go_ret
    exact ⟨rfl, (by repeat' (first | exact Below.refl _ _ | (with_reducible assumption) | (with_reducible refine Below.alloc ?_ ?_ _) | (with_reducible refine Below.setCell ?_ ?_ _) | (with_reducible refine Below.drew ?_) | (with_reducible refine below_drewN ?_ _) | (refine Below.trans ?_ (Below.mono (by assumption) ?_)) | (with_reducible exact Nat.le_refl _) | (with_reducible assumption) | (exact Below.size (by assumption)) | omega | go_size | (simp at *; omega)))⟩
  have KaP := Rd.of_came aPK
  have KLaP := KaP.len
  have B0aP := hid aPK
  have hS := hid (fun (AaP : Option Addr) (caP : Nat) (w1 : World) (kaP : Rd w1 w1.heap.size 1 AaP aPN (ints aP)) => specAverageOf_any AaP aPN caP aP w1 (by omega) kaP)
  have hI := hid (fun (AaP : Option Addr) (caP : Nat) (w1 : World) (kaP : Rd w1 w1.heap.size 1 AaP aPN (ints aP)) => AverageOf_any AaP aPN caP aP w1 (by omega) kaP)
  generalize rAverageOf aP = r at *
  obtain ⟨r0, ⟨r1, r2⟩⟩ := r
  have hB := Below.refl w.heap.size w
  go_enter Try.func12, Try.ntmps12
  go_wp2_with (go_at_call 39; refine (toInt64S_any _ _ _ _ _ (by omega) ((KaP.below hB (Nat.le_refl _)).more hB.size)).mono ?_; rintro e w1 ⟨v1, rfl, ho1, hb1⟩; obtain ⟨A1, c1, rfl⟩ := own_form ho1; have l1 := ho1.lt; have s1 := hb1.size; replace hB := bchain hB hb1)
  go_wp2_with (go_at_call 38; refine (hS.out _ _ _ (Rd.of_own ho1)).mono ?_; rintro e w2 ⟨rfl, hb2⟩; have s2 := hb2.size; replace hB := bchain hB hb2; replace ho1 := own_below ho1 hb2)
  go_wp2_with (go_at_call 39; refine (toInt64S_any _ _ _ _ _ (by omega) ((KaP.below hB (Nat.le_refl _)).more hB.size)).mono ?_; rintro e w3 ⟨v3, rfl, ho3, hb3⟩; obtain ⟨A3, c3, rfl⟩ := own_form ho3; have l3 := ho3.lt; have s3 := hb3.size; replace hB := bchain hB hb3; replace ho1 := own_below ho1 hb3)
  go_wp2_with (go_at_call 40; refine (hI.out _ _ _ (Rd.of_own ho3)).mono ?_; rintro e w4 ⟨rfl, hb4⟩; have s4 := hb4.size; replace hB := bchain hB hb4; replace ho1 := own_below ho1 hb4; replace ho3 := own_below ho3 hb4)
  go_wp2_with (go_at_call 39; refine (toInt64S_any _ _ _ _ _ (by omega) ((KaP.below hB (Nat.le_refl _)).more hB.size)).mono ?_; rintro e w5 ⟨v5, rfl, ho5, hb5⟩; obtain ⟨A5, c5, rfl⟩ := own_form ho5; have l5 := ho5.lt; have s5 := hb5.size; replace hB := bchain hB hb5; replace ho1 := own_below ho1 hb5; replace ho3 := own_below ho3 hb5)
  go_wp2_with (go_at_call 35; refine (eqInt64S_same _ _ _ _ _ _ _ (by omega) (Rd.of_own ho3) (Rd.of_own ho5)).mono ?_; rintro e w6 ⟨rfl, hb6⟩; have s6 := hb6.size; replace hB := bchain hB hb6; replace ho1 := own_below ho1 hb6; replace ho3 := own_below ho3 hb6; replace ho5 := own_below ho5 hb6)
  go_ret
  exact ⟨rfl, (by repeat' (first | exact Below.refl _ _ | (with_reducible assumption) | (with_reducible refine Below.alloc ?_ ?_ _) | (with_reducible refine Below.setCell ?_ ?_ _) | (with_reducible refine Below.drew ?_) | (with_reducible refine below_drewN ?_ _) | (refine Below.trans ?_ (Below.mono (by assumption) ?_)) | (with_reducible exact Nat.le_refl _) | (with_reducible assumption) | (exact Below.size (by assumption)) | omega | go_size | (simp at *; omega)))⟩
end Go.Proofs.Ytegapfkmgfcolaa
