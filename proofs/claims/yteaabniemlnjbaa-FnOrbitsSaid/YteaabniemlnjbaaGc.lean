/- Contracts of the common divisors and multiples. -/
import Derived.Test.YteaabniemlnjbaaA
import Derived.Test.YteaabniemlnjbaaC
namespace Go.Proofs.Yteaabniemlnjbaa
open Go.RowKit
set_option linter.unusedVariables false

theorem lcm_eq (a b : Nat) : a / Nat.gcd a b * b = Nat.lcm a b := by
  rw [Nat.lcm, Nat.div_mul_right_comm (Nat.gcd_dvd_left a b)]
theorem gcd_step (a b : Nat) : Nat.gcd b (a % b) = Nat.gcd a b := by rw [Nat.gcd_comm a b, Nat.gcd_rec b a, Nat.gcd_comm]
theorem divisor_any (a b : Nat) (w : World) (ha : a ≤ 1000000000) (hb : b ≤ 1000000000) :
    Calls Try.prog 139 #[.int .i64 a, .int .i64 b] w fun e w' => e = .returned (.int .i64 (Nat.gcd a b)) ∧ Below w.heap.size w w' := by
  obtain ⟨R, hR⟩ : ∃ R, Nat.gcd a b = R := ⟨_, rfl⟩
  rw [hR]
  have hst := hid hR
  clear hR
  go_enter Try.func139, Try.ntmps139
  go_wp2
  go_loopw [0, 1] (fun x y wr => ∃ (s t : Nat), x = .int .i64 s ∧ y = .int .i64 t ∧ s ≤ 1000000000 ∧ t ≤ 1000000000 ∧ Hid (Nat.gcd s t = R) ∧ Below w.heap.size w wr) (fun _ y _ => (intOf y).toNat)
  case atStart => exact ⟨a, b, rfl, rfl, ha, hb, hst, Below.refl _ _⟩
  case round =>
    obtain ⟨s, t, rfl, rfl, hs, ht, he, hb0⟩ := hrel
    by_cases h0 : t = 0
    · subst h0
      have HE : Hid (s = R) := by show _ = _; rw [← he.out, Nat.gcd_zero_right]
      clear he
      go_wp2
      go_ret
      exact ⟨by rw [HE.out]; rfl, hb0⟩
    · have hq : ((t : Int) == 0) = false := by simpa using h0
      have hq2 : ((t : Int) != 0) = true := by simpa using h0
      have hlt : s % t < t := Nat.mod_lt _ (by omega)
      have HE : Hid (Nat.gcd t (s % t) = R) := by show _ = _; rw [gcd_step]; exact he.out
      have HC : Hid (((s : Int) % (t : Int)) = ((s % t : Nat) : Int)) := by show _ = _; omega
      clear he
      go_wp2
      go_quiet (fail)
      go_wp2
      go_roundw
      case rel => exact ⟨t, s % t, rfl, by rw [HC.out], ht, by omega, HE, (by repeat' (first | exact Below.refl _ _ | (with_reducible assumption) | (with_reducible refine Below.alloc ?_ ?_ _) | (with_reducible refine Below.setCell ?_ ?_ _) | (with_reducible refine Below.drew ?_) | (with_reducible refine below_drewN ?_ _) | (refine Below.trans ?_ (Below.mono (by assumption) ?_)) | (with_reducible exact Nat.le_refl _) | (with_reducible assumption) | (exact Below.size (by assumption)) | omega | go_size | (simp at *; omega)))⟩
      case measure => simp [intOf]; omega
theorem multiple_any (a b : Nat) (w : World) (h0 : 1 ≤ a) (ha : a ≤ 1000000000) (hb : b ≤ 1000000000) (hm : Nat.lcm a b ≤ 1000000000) :
    Calls Try.prog 113 #[.int .i64 a, .int .i64 b] w fun e w' => e = .returned (.int .i64 (Nat.lcm a b)) ∧ Below w.heap.size w w' := by
  have hd := divisor_any a b w ha hb
  have hg : 1 ≤ Nat.gcd a b := Nat.gcd_pos_of_pos_left _ (by omega)
  have hgi : (1 : Int) ≤ ((Nat.gcd a b : Nat) : Int) := by omega
  have hl := lcm_eq a b
  have hq1 : a / Nat.gcd a b ≤ a := Nat.div_le_self _ _
  rw [← hl] at hm ⊢
  have e1 : ((a / Nat.gcd a b * b : Nat) : Int) = (a : Int) / ((Nat.gcd a b : Nat) : Int) * (b : Int) := by rw [Int.natCast_mul, Int.natCast_ediv]
  have m0 : 0 ≤ (a : Int) / ((Nat.gcd a b : Nat) : Int) * (b : Int) := by rw [← e1]; exact Int.natCast_nonneg _
  have m1 : (a : Int) / ((Nat.gcd a b : Nat) : Int) * (b : Int) ≤ 1000000000 := by rw [← e1]; exact Int.ofNat_le.2 hm
  have q0 : 0 ≤ (a : Int) / ((Nat.gcd a b : Nat) : Int) := by rw [← Int.natCast_ediv]; exact Int.natCast_nonneg _
  have q1 : (a : Int) / ((Nat.gcd a b : Nat) : Int) ≤ 1000000000 := by rw [← Int.natCast_ediv]; exact Int.ofNat_le.2 (Nat.le_trans hq1 ha)
  rw [e1]
  have hd := hid hd
  generalize Nat.gcd a b = g at *
  clear hl hq1 hm e1 hg
  go_enter Try.func113, Try.ntmps113
  go_wp2_with (go_at_call 139; refine (hd.out).mono ?_; rintro e w1 ⟨rfl, hb1⟩; first | (have hk1 := bchain (by assumption) hb1; obtain ⟨hc1, hf1, hz1, hl1⟩ := bcell hk1) | (obtain ⟨hc1, hf1, hz1, hl1⟩ := bcell hb1))
  go_ret
  exact ⟨rfl, hb1⟩
/-- The least multiple of a that b divides. -/
theorem mult_iff {a b k : Nat} (hb : 1 ≤ b) : b ∣ a * k ↔ b / Nat.gcd a b ∣ k := by
  have hg : 0 < Nat.gcd a b := Nat.gcd_pos_of_pos_right _ (by omega)
  obtain ⟨B, hB⟩ := Nat.gcd_dvd_right a b
  obtain ⟨A, hA⟩ := Nat.gcd_dvd_left a b
  have hBe : b / Nat.gcd a b = B := by rw [Nat.div_eq_of_eq_mul_right hg hB]
  have hAe : a / Nat.gcd a b = A := by rw [Nat.div_eq_of_eq_mul_right hg hA]
  have hc : Nat.Coprime A B := by
    have := Nat.coprime_div_gcd_div_gcd hg
    rwa [hAe, hBe] at this
  rw [hBe]
  generalize Nat.gcd a b = g at *
  subst hA hB
  constructor
  · intro h
    rw [Nat.mul_assoc] at h
    exact hc.symm.dvd_of_dvd_mul_left (Nat.dvd_of_mul_dvd_mul_left hg h)
  · rintro ⟨c, rfl⟩
    exact ⟨A * c, by rw [Nat.mul_assoc, Nat.mul_assoc]; congr 1; rw [← Nat.mul_assoc, ← Nat.mul_assoc, Nat.mul_comm A B]⟩
end Go.Proofs.Yteaabniemlnjbaa
