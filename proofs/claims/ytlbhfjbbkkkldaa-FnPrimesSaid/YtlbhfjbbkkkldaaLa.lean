/- Contracts of the laws' own helpers: a2At, a2Long, a2Same; ComparePatterns. -/
import Derived.Test.YtlbhfjbbkkkldaaProg
import Derived.Test.YtlbhfjbbkkkldaaKit
import Derived.Deep.QuietTactic
import Derived.BigQuiet
namespace Go.Proofs.Ytlbhfjbbkkkldaa
open Go.RowKit
set_option linter.unusedVariables false

theorem a2Long_any (A A' : Option Addr) (n c n' c' : Nat) (w : World) (hn : n ≤ 9223372036854775807) (hn' : n' ≤ 9223372036854775807) :
    Calls Try.prog 63 #[.slice A n c, .slice A' n' c'] w fun e w' => e = .returned (.bool (decide (3000 < n) || decide (3000 < n'))) ∧ w = w' := by
  by_cases h : 3000 < n
  · go_enter Try.func63, Try.ntmps63
    go_wp2
    go_ret
    exact ⟨ret_bool (by first | (simp; done) | (rw [Bool.eq_iff_iff]; simp; omega)), rfl⟩
  · go_enter Try.func63, Try.ntmps63
    go_wp2
    go_ret
    exact ⟨ret_bool (by first | (simp; done) | (rw [Bool.eq_iff_iff]; simp; omega)), rfl⟩

def cmpL : List Int → List Int → Int
  | x :: xs, y :: ys => if x < y then -1 else if y < x then 1 else cmpL xs ys
  | _, _ => 0
/-- How two lists compare. -/
def rCmp (a b : List Int) : Int := if a.length < b.length then -1 else if b.length < a.length then 1 else cmpL a b
theorem cmpL_bd : ∀ a b, -1 ≤ cmpL a b ∧ cmpL a b ≤ 1 := by
  intro a
  induction a with
  | nil => intro b; simp [cmpL]
  | cons x xs ih =>
    intro b
    cases b with
    | nil => simp [cmpL]
    | cons y ys =>
      simp only [cmpL]
      split
      · omega
      · split
        · omega
        · exact ih ys
theorem cmpL_neg : ∀ a b, cmpL b a = - cmpL a b := by
  intro a
  induction a with
  | nil => intro b; cases b <;> simp [cmpL]
  | cons x xs ih =>
    intro b
    cases b with
    | nil => simp [cmpL]
    | cons y ys =>
      simp only [cmpL]
      by_cases h1 : x < y
      · have h2 : ¬ y < x := by omega
        simp [h1, h2]
      · by_cases h2 : y < x
        · simp [h1, h2]
        · simp only [h1, h2, if_false]; exact ih ys
theorem cmpL_zero : ∀ a b, a.length = b.length → (cmpL a b = 0 ↔ a = b) := by
  intro a
  induction a with
  | nil => intro b h; have : b = [] := List.eq_nil_of_length_eq_zero (by simpa using h.symm); subst this; simp [cmpL]
  | cons x xs ih =>
    intro b h
    cases b with
    | nil => simp at h
    | cons y ys =>
      simp only [List.length_cons] at h
      simp only [cmpL]
      by_cases h1 : x < y
      · rw [if_pos h1]; simp; omega
      · by_cases h2 : y < x
        · rw [if_neg h1, if_pos h2]; simp; omega
        · rw [if_neg h1, if_neg h2, ih ys (by omega)]
          have : x = y := by omega
          simp [this]
theorem rCmp_bd (a b : List Int) : -1 ≤ rCmp a b ∧ rCmp a b ≤ 1 := by
  unfold rCmp
  split
  · omega
  · split
    · omega
    · exact cmpL_bd a b
theorem rCmp_neg (a b : List Int) : rCmp b a = - rCmp a b := by
  unfold rCmp
  by_cases h1 : a.length < b.length
  · have h2 : ¬ b.length < a.length := by omega
    simp [h1, h2]
  · by_cases h2 : b.length < a.length
    · simp [h1, h2]
    · simp only [h1, h2, if_false]; exact cmpL_neg a b
theorem rCmp_zero (a b : List Int) : rCmp a b = 0 ↔ a = b := by
  unfold rCmp
  by_cases h1 : a.length < b.length
  · rw [if_pos h1]
    constructor
    · intro h; omega
    · intro h; subst h; omega
  · by_cases h2 : b.length < a.length
    · rw [if_neg h1, if_pos h2]
      constructor
      · intro h; omega
      · intro h; subst h; omega
    · rw [if_neg h1, if_neg h2]; exact cmpL_zero a b (by omega)
theorem rCmp_self (a : List Int) : rCmp a a = 0 := (rCmp_zero a a).2 rfl
end Go.Proofs.Ytlbhfjbbkkkldaa
