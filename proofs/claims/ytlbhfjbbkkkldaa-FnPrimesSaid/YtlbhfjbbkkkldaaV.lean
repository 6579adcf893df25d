/- Contracts of the functions that check orders of hands. -/
import Derived.Test.YtlbhfjbbkkkldaaT
namespace Go.Proofs.Ytlbhfjbbkkkldaa
open Go.RowKit
set_option linter.unusedVariables false

/-- The greatest of m and the numbers of a list. -/
def maxF : Int → List Int → Int
  | m, [] => m
  | m, x :: xs => maxF (max m x) xs
theorem maxF_bd : ∀ (xs : List Int) (m B : Int), m ≤ B → (∀ x ∈ xs, x ≤ B) → m ≤ maxF m xs ∧ maxF m xs ≤ B := by
  intro xs
  induction xs with
  | nil => intro m B h _; exact ⟨Int.le_refl _, h⟩
  | cons x xs ih =>
    intro m B h hx
    have h1 := hx x List.mem_cons_self
    have := ih (max m x) B (by omega) (fun y hy => hx y (List.mem_cons_of_mem _ hy))
    simp only [maxF]; omega
theorem maxF_ge : ∀ (xs : List Int) (m : Int), m ≤ maxF m xs := by
  intro xs
  induction xs with
  | nil => intro m; exact Int.le_refl _
  | cons x xs ih => intro m; have := ih (max m x); simp only [maxF]; omega
theorem maxF_mem : ∀ (xs : List Int) (m : Int) (x : Int), x ∈ xs → x ≤ maxF m xs := by
  intro xs
  induction xs with
  | nil => intro m x h; simp at h
  | cons y ys ih =>
    intro m x h
    simp only [maxF]
    rcases List.mem_cons.1 h with rfl | h
    · have := maxF_ge ys (max m x); omega
    · exact ih _ _ h
theorem max_if (m x : Int) : (if m < x then x else m) = max m x := by split <;> omega
def cntG : Int → List Int → Int
  | m, [] => m
  | m, x :: xs => cntG (max m (x + 1)) xs
theorem cntG_eq : ∀ (xs : List Int) (m : Int), cntG (m + 1) xs = maxF m xs + 1 := by
  intro xs
  induction xs with
  | nil => intro m; rfl
  | cons x xs ih =>
    intro m
    simp only [cntG, maxF]
    have : max (m + 1) (x + 1) = max m x + 1 := by omega
    rw [this, ih]
theorem cntG_zero : ∀ (xs : List Int), xs ≠ [] → (∀ x ∈ xs, 0 ≤ x) → cntG 0 xs = maxF 0 xs + 1 := by
  intro xs h h0
  cases xs with
  | nil => exact absurd rfl h
  | cons x xs =>
    simp only [cntG, maxF]
    have := h0 x List.mem_cons_self
    rw [← cntG_eq]
    congr 1; omega
/-- How many hands an order has. -/
def hdCnt (p : List Int) : Int := maxF 0 p + 1
/-- An order of hands. -/
def hdOk (p : List Int) : Bool := p.all (betweenB · 0 3) && betweenB p.length 1 12 && (List.range (hdCnt p).toNat).all fun h => decide ((h : Int) ∈ p)

/-- Which hands have been seen, as cells. -/
def seenA (l : List Int) : Array Value := #[.bool (decide ((0 : Int) ∈ l)), .bool (decide ((1 : Int) ∈ l)), .bool (decide ((2 : Int) ∈ l)), .bool (decide ((3 : Int) ∈ l))]
theorem seenA_at (l : List Int) (t : Int) (h0 : 0 ≤ t) (h1 : t ≤ 3) : (seenA l)[t.toNat]? = some (.bool (decide (t ∈ l))) := by
  rcases (show t = 0 ∨ t = 1 ∨ t = 2 ∨ t = 3 by omega) with rfl | rfl | rfl | rfl <;> rfl
theorem seenA_set (l : List Int) (t : Int) (h0 : 0 ≤ t) (h1 : t ≤ 3) : (seenA l).setIfInBounds t.toNat (.bool true) = seenA (l ++ [t]) := by
  rcases (show t = 0 ∨ t = 1 ∨ t = 2 ∨ t = 3 by omega) with rfl | rfl | rfl | rfl <;> simp [seenA]
theorem rng_stop {p : List Int} {N k : Nat} (h : k < N) (hx : ((k : Int) ∈ p) = False) : ((List.range N).all fun h => decide ((h : Int) ∈ p)) = false := by
  rw [List.all_eq_false]
  exact ⟨k, List.mem_range.2 h, by simp [hx]⟩
theorem rng_all {p : List Int} {N : Nat} (h : ∀ k : Nat, k < N → (k : Int) ∈ p) : ((List.range N).all fun h => decide ((h : Int) ∈ p)) = true := by
  rw [List.all_eq_true]
  intro k hk
  exact decide_eq_true (h k (List.mem_range.1 hk))
end Go.Proofs.Ytlbhfjbbkkkldaa
