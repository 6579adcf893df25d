/- The sum of the Moebius function over the divisors of a number up to 1000: by the kernel, over natural numbers. -/
import Derived.Test.YtegapfkmgfcolaaM
namespace Go.Proofs.Ytegapfkmgfcolaa
open Go.RowKit
set_option linter.unusedVariables false

def mobN : Nat → Nat → Nat → Int → Int
  | 0, _, _, o => o
  | f + 1, n, p, o => bif Nat.blt 1 n then (bif Nat.beq (n % p) 0 then (bif Nat.beq (n / p % p) 0 then 0 else mobN f (n / p) (p + 1) (-o)) else mobN f n (p + 1) o) else o
def sumN (n : Nat) : Nat → Nat → Int → Int
  | 0, _, s => s
  | f + 1, d, s => bif Nat.beq (n % d) 0 then sumN n f (d + 1) (s + mobN 1001 d 2 1) else sumN n f (d + 1) s
def okN : Nat → Nat → Bool
  | 0, _ => true
  | f + 1, n => (sumN n n 1 0 == 0) && okN f (n + 1)
theorem okN_0 : okN 100 2 = true := by decide +kernel
theorem okN_1 : okN 100 102 = true := by decide +kernel
theorem okN_2 : okN 100 202 = true := by decide +kernel
theorem okN_3 : okN 100 302 = true := by decide +kernel
theorem okN_4 : okN 100 402 = true := by decide +kernel
theorem okN_5 : okN 100 502 = true := by decide +kernel
theorem okN_6 : okN 100 602 = true := by decide +kernel
theorem okN_7 : okN 100 702 = true := by decide +kernel
theorem okN_8 : okN 100 802 = true := by decide +kernel
theorem okN_9 : okN 100 902 = true := by decide +kernel
theorem okN_at : ∀ (f n k : Nat), okN f n = true → n ≤ k → k < n + f → sumN k k 1 0 = 0 := by
  intro f
  induction f with
  | zero => intro n k _ a b; omega
  | succ f ih =>
    intro n k h a b
    simp only [okN, Bool.and_eq_true, beq_iff_eq] at h
    rcases Nat.lt_or_eq_of_le a with a | rfl
    · exact ih (n + 1) k h.2 (by omega) (by omega)
    · exact h.1
theorem sumN_zero (k : Nat) (h1 : 2 ≤ k) (h2 : k ≤ 1000) : sumN k k 1 0 = 0 := by
  rcases (show k < 102 ∨ (102 ≤ k ∧ k < 202) ∨ (202 ≤ k ∧ k < 302) ∨ (302 ≤ k ∧ k < 402) ∨ (402 ≤ k ∧ k < 502) ∨ (502 ≤ k ∧ k < 602) ∨ (602 ≤ k ∧ k < 702) ∨ (702 ≤ k ∧ k < 802) ∨ (802 ≤ k ∧ k < 902) ∨ 902 ≤ k by omega) with h | h | h | h | h | h | h | h | h | h
  · exact okN_at 100 2 k okN_0 h1 h
  · exact okN_at 100 102 k okN_1 h.1 h.2
  · exact okN_at 100 202 k okN_2 h.1 h.2
  · exact okN_at 100 302 k okN_3 h.1 h.2
  · exact okN_at 100 402 k okN_4 h.1 h.2
  · exact okN_at 100 502 k okN_5 h.1 h.2
  · exact okN_at 100 602 k okN_6 h.1 h.2
  · exact okN_at 100 702 k okN_7 h.1 h.2
  · exact okN_at 100 802 k okN_8 h.1 h.2
  · exact okN_at 100 902 k okN_9 h (by omega)

theorem mobN_eq : ∀ (f n p : Nat) (o : Int), mobF f (n : Int) (p : Int) o = mobN f n p o := by
  intro f
  induction f with
  | zero => intro n p o; rfl
  | succ f ih =>
    intro n p o
    simp only [mobF, mobN]
    have e1 : (1 < (n : Int)) ↔ Nat.blt 1 n = true := by rw [Nat.blt_eq]; omega
    have e2 : ((n : Int) % (p : Int) = 0) ↔ Nat.beq (n % p) 0 = true := by rw [Nat.beq_eq]; omega
    have e3 : ((n : Int) / (p : Int) % (p : Int) = 0) ↔ Nat.beq (n / p % p) 0 = true := by
      show (((n / p % p : Nat) : Int) = 0) ↔ _
      rw [Nat.beq_eq]
      generalize n / p % p = q
      omega
    have e4 : ((n : Int) / (p : Int)) = ((n / p : Nat) : Int) := rfl
    have e5 : ((p : Int) + 1) = ((p + 1 : Nat) : Int) := rfl
    by_cases c1 : 1 < (n : Int)
    · rw [if_pos c1, e1.1 c1]
      by_cases c2 : (n : Int) % (p : Int) = 0
      · rw [if_pos c2, e2.1 c2]
        by_cases c3 : (n : Int) / (p : Int) % (p : Int) = 0
        · rw [if_pos c3, e3.1 c3]; rfl
        · have c3' : Nat.beq (n / p % p) 0 = false := by
            cases hh : Nat.beq (n / p % p) 0 with
            | false => rfl
            | true => exact absurd (e3.2 hh) c3
          rw [if_neg c3, c3', e4, e5, ih]; rfl
      · have c2' : Nat.beq (n % p) 0 = false := by
          cases hh : Nat.beq (n % p) 0 with
          | false => rfl
          | true => exact absurd (e2.2 hh) c2
        rw [if_neg c2, c2', e5, ih]; rfl
    · have c1' : Nat.blt 1 n = false := by
        cases hh : Nat.blt 1 n with
        | false => rfl
        | true => exact absurd (e1.2 hh) c1
      rw [if_neg c1, c1']; rfl

/-- The sum of the Moebius function over a list. -/
def mobS : List Int → Int
  | [] => 0
  | d :: l => mobF 1001 d 2 1 + mobS l
theorem sumN_eq (n : Nat) : ∀ (f d : Nat) (s : Int), sumN n f d s = s + mobS (divL (n : Int) f (d : Int)) := by
  intro f
  induction f with
  | zero => intro d s; simp [sumN, divL, mobS]
  | succ f ih =>
    intro d s
    simp only [sumN, divL]
    have e2 : ((n : Int) % (d : Int) = 0) ↔ Nat.beq (n % d) 0 = true := by rw [Nat.beq_eq]; omega
    have e5 : ((d : Int) + 1) = ((d + 1 : Nat) : Int) := rfl
    by_cases c2 : (n : Int) % (d : Int) = 0
    · rw [if_pos c2, e2.1 c2, cond_true, ih, e5, mobS]
      have := mobN_eq 1001 d 2 1
      have e : ((2 : Nat) : Int) = 2 := rfl
      rw [e] at this
      rw [this]; omega
    · have c2' : Nat.beq (n % d) 0 = false := by
        cases hh : Nat.beq (n % d) 0 with
        | false => rfl
        | true => exact absurd (e2.2 hh) c2
      rw [if_neg c2, c2', cond_false, ih, e5]
theorem mobS_div {n : Int} (h1 : 2 ≤ n) (h2 : n ≤ 1000) : mobS (divL n n.toNat 1) = 0 := by
  obtain ⟨k, rfl⟩ := Int.eq_ofNat_of_zero_le (show 0 ≤ n by omega)
  have := sumN_eq k k 1 0
  rw [sumN_zero k (by omega) (by omega)] at this
  rw [Int.toNat_natCast]
  have e : ((1 : Nat) : Int) = 1 := rfl
  rw [e] at this
  omega
theorem mobS_one : mobS (divL 1 1 1) = 1 := by decide +kernel
theorem mobF_bd : ∀ (f : Nat) (n p o : Int), -1 ≤ o → o ≤ 1 → -1 ≤ mobF f n p o ∧ mobF f n p o ≤ 1 := by
  intro f
  induction f with
  | zero => intro n p o a b; exact ⟨a, b⟩
  | succ f ih =>
    intro n p o a b
    simp only [mobF]
    split
    · split
      · split
        · omega
        · exact ih _ _ _ (by omega) (by omega)
      · exact ih _ _ _ a b
    · exact ⟨a, b⟩
/-- The last divisor is the number. -/
theorem divL_last (n : Int) : ∀ (f : Nat) (d : Int), 0 < f → d + (f : Int) = n + 1 → (divL n f d).getLast? = some n := by
  intro f
  induction f with
  | zero => intro d h; omega
  | succ f ih =>
    intro d _ h
    simp only [divL]
    rcases Nat.eq_zero_or_pos f with rfl | hf
    · have : d = n := by omega
      subst this
      rw [if_pos Int.emod_self]; rfl
    · have h1 := ih (d + 1) hf (by omega)
      split
      · rw [List.getLast?_cons, h1]; rfl
      · exact h1
theorem divL_one {n : Int} (h : 1 ≤ n) : ∃ l, divL n n.toNat 1 = 1 :: l := by
  obtain ⟨f, hf⟩ : ∃ f, n.toNat = f + 1 := ⟨n.toNat - 1, by omega⟩
  rw [hf, divL, if_pos (Int.emod_one n)]
  exact ⟨_, rfl⟩
end Go.Proofs.Ytegapfkmgfcolaa
