/- Plain facts on the Moebius function and on divisors: nothing of the program is named here. -/
import Derived.Test.YtegapfkmgfcolaaKit
namespace Go.Proofs.Ytegapfkmgfcolaa
open Go.RowKit
set_option linter.unusedVariables false

/-- The loop of the Moebius function: f rounds at most, n what is left, p the next divisor to try, o the sign. -/
def mobF : Nat → Int → Int → Int → Int
  | 0, _, _, o => o
  | f + 1, n, p, o => if 1 < n then (if n % p = 0 then (if n / p % p = 0 then 0 else mobF f (n / p) (p + 1) (-o)) else mobF f n (p + 1) o) else o
theorem mobF_done (f : Nat) (n p o : Int) (h : ¬ 1 < n) : mobF f n p o = o := by cases f <;> simp [mobF, h]
theorem mobF_skip (f : Nat) (n p o : Int) (h : 1 < n) (h2 : n % p ≠ 0) : mobF (f + 1) n p o = mobF f n (p + 1) o := by simp [mobF, h, h2]
theorem mobF_zero (f : Nat) (n p o : Int) (h : 1 < n) (h2 : n % p = 0) (h3 : n / p % p = 0) : mobF (f + 1) n p o = 0 := by simp [mobF, h, h2, h3]
theorem mobF_turn (f : Nat) (n p o : Int) (h : 1 < n) (h2 : n % p = 0) (h3 : n / p % p ≠ 0) : mobF (f + 1) n p o = mobF f (n / p) (p + 1) (-o) := by simp [mobF, h, h2, h3]

/-- What holds at the head of each round, R being what comes out in the end. -/
structure MobInv (R : Int) (f : Nat) (x y z : Int) : Prop where
  x1 : 1 ≤ x
  x2 : x ≤ 1000
  z2 : 2 ≤ z
  y1 : -1 ≤ y
  y2 : y ≤ 1
  zf : z + (f : Int) = 1003
  nf : ∀ d, 2 ≤ d → d < z → x % d ≠ 0
  eq : mobF f x z y = R

theorem MobInv.zle {R : Int} {f : Nat} {x y z : Int} (h : MobInv R f x y z) (h1 : 1 < x) : z ≤ x := by
  rcases Int.lt_or_le x z with hl | hl
  · exact absurd (Int.emod_self) (h.nf x (by omega) hl)
  · exact hl
theorem MobInv.start {n : Int} (h1 : 1 ≤ n) (h2 : n ≤ 1000) : MobInv (mobF 1001 n 2 1) 1001 n 1 2 :=
  ⟨h1, h2, by omega, by omega, by omega, by omega, fun d a b => by omega, rfl⟩
theorem MobInv.fuel {R : Int} {f : Nat} {x y z : Int} (h : MobInv R f x y z) (h1 : 1 < x) : ∃ g, f = g + 1 := by
  have := h.zle h1; have := h.zf; have := h.x2
  exact ⟨f - 1, by omega⟩
theorem MobInv.skip {R : Int} {f : Nat} {x y z : Int} (h : MobInv R (f + 1) x y z) (h1 : 1 < x) (h2 : x % z ≠ 0) : MobInv R f x y (z + 1) :=
  ⟨h.x1, h.x2, by have := h.z2; omega, h.y1, h.y2, by have := h.zf; omega, fun d a b => by
    rcases Int.lt_or_eq_of_le (show d ≤ z by omega) with hl | rfl
    · exact h.nf d a hl
    · exact h2, by rw [← mobF_skip f x z y h1 h2]; exact h.eq⟩
theorem MobInv.turn {R : Int} {f : Nat} {x y z : Int} (h : MobInv R (f + 1) x y z) (h1 : 1 < x) (h2 : x % z = 0) (h3 : x / z % z ≠ 0) : MobInv R f (x / z) (-y) (z + 1) := by
  have hz := h.z2
  have hzx := h.zle h1
  have hm : x = z * (x / z) := by have := Int.mul_ediv_add_emod x z; omega
  have hq1 : 1 ≤ x / z := Int.le_ediv_of_mul_le (by omega) (by omega)
  have hq2 : x / z ≤ x := Int.ediv_le_self z (by omega)
  refine ⟨hq1, by have := h.x2; omega, by omega, by have := h.y2; omega, by have := h.y1; omega, by have := h.zf; omega, fun d a b hd => ?_, by rw [← mobF_turn f x z y h1 h2 h3]; exact h.eq⟩
  rcases Int.lt_or_eq_of_le (show d ≤ z by omega) with hl | rfl
  · refine h.nf d a hl ?_
    rw [hm]
    exact Int.emod_eq_zero_of_dvd (Int.dvd_trans (Int.dvd_of_emod_eq_zero hd) (Int.dvd_mul_left _ _))
  · exact h3 hd
theorem MobInv.zero {R : Int} {f : Nat} {x y z : Int} (h : MobInv R (f + 1) x y z) (h1 : 1 < x) (h2 : x % z = 0) (h3 : x / z % z = 0) : R = 0 := by
  rw [← h.eq, mobF_zero f x z y h1 h2 h3]
theorem MobInv.done {R : Int} {f : Nat} {x y z : Int} (h : MobInv R f x y z) (h1 : ¬ 1 < x) : R = y := by
  rw [← h.eq, mobF_done f x z y h1]

/-- The divisors of n from d on; f numbers are looked at. -/
def divL (n : Int) : Nat → Int → List Int
  | 0, _ => []
  | f + 1, d => if n % d = 0 then d :: divL n f (d + 1) else divL n f (d + 1)
theorem divL_len (n : Int) : ∀ f d, (divL n f d).length ≤ f := by
  intro f
  induction f with
  | zero => intro d; simp [divL]
  | succ f ih => intro d; have := ih (d + 1); simp only [divL]; split <;> simp <;> omega
theorem divL_mem (n : Int) : ∀ f d x, x ∈ divL n f d → d ≤ x ∧ x < d + f ∧ n % x = 0 := by
  intro f
  induction f with
  | zero => intro d x h; simp [divL] at h
  | succ f ih =>
    intro d x h
    simp only [divL] at h
    split at h
    · rcases List.mem_cons.1 h with rfl | h
      · rename_i e; exact ⟨by omega, by omega, e⟩
      · have := ih _ _ h; exact ⟨by omega, by omega, this.2.2⟩
    · have := ih _ _ h; exact ⟨by omega, by omega, this.2.2⟩
theorem divL_rises (n : Int) : ∀ f d, (divL n f d).Pairwise (· < ·) := by
  intro f
  induction f with
  | zero => intro d; simp [divL]
  | succ f ih =>
    intro d
    simp only [divL]
    split
    · exact List.pairwise_cons.2 ⟨fun x hx => by have := divL_mem n f (d + 1) x hx; omega, ih _⟩
    · exact ih _
end Go.Proofs.Ytegapfkmgfcolaa
