/- Plain facts: which notations are valid; their beats, props and texts. Nothing of the program is named here. -/
import Derived.Test.YtkglkpohbckpcaaNqa
import Derived.Test.YtkglkpohbckpcaaMt
namespace Go.Proofs.Ytkglkpohbckpcaa
open Go.RowKit
set_option linter.unusedVariables false

/-- All fields but that of the kind are empty, by their lengths. -/
def ebL (k : Int) (n1 n2 n3 n4 n5 : Nat) : Bool := (k == 1 || (n1 : Int) == 0) && (k == 2 || (n2 : Int) == 0) && (k == 3 || (n3 : Int) == 0) && (k == 4 || (n4 : Int) + (n5 : Int) == 0)
def ebN (x : Note) : Bool := ebL x.1 x.2.1.length x.2.2.1.length x.2.2.2.1.length x.2.2.2.2.1.length x.2.2.2.2.2.length
/-- The field of the kind is valid. -/
def swN (x : Note) : Bool := if x.1 = 1 then okP x.2.1 else if x.1 = 2 then mOk x.2.2.1 else if x.1 = 3 then syOk x.2.2.2.1 else if x.1 = 4 then psOk x.2.2.2.2 else false
def ntOk (x : Note) : Bool := ebN x && swN x
/-- How many fields are empty. -/
def emp (n : Nat) : Nat := if n = 0 then 1 else 0
def cntN (x : Note) : Nat := emp x.2.1.length + emp x.2.2.1.length + emp x.2.2.2.1.length + emp (x.2.2.2.2.1.length + x.2.2.2.2.2.length)
theorem ntOk_no {x : Note} (h : ebN x = false) : ntOk x = false := by rw [ntOk, h]; rfl
theorem ntOk_yes {x : Note} (h : ebN x = true) : ntOk x = swN x := by rw [ntOk, h]; rfl
theorem swN_1 {x : Note} (h : x.1 = 1) : swN x = okP x.2.1 := by rw [swN, if_pos h]
theorem swN_2 {x : Note} (h : x.1 = 2) : swN x = mOk x.2.2.1 := by rw [swN, if_neg (by omega), if_pos h]
theorem swN_3 {x : Note} (h : x.1 = 3) : swN x = syOk x.2.2.2.1 := by rw [swN, if_neg (by omega), if_neg (by omega), if_pos h]
theorem swN_4 {x : Note} (h : x.1 = 4) : swN x = psOk x.2.2.2.2 := by rw [swN, if_neg (by omega), if_neg (by omega), if_neg (by omega), if_pos h]
theorem swN_0 {x : Note} (h1 : x.1 ≠ 1) (h2 : x.1 ≠ 2) (h3 : x.1 ≠ 3) (h4 : x.1 ≠ 4) : swN x = false := by rw [swN, if_neg h1, if_neg h2, if_neg h3, if_neg h4]
theorem ok_len {p : List Int} (h : okP p = true) : 1 ≤ p.length := (thOk_iff (okP_th h)).2.1
theorem m_len {m : List (List Int)} (h : mOk m = true) : 1 ≤ m.length := (msSh_iff.1 (mOk_iff.1 h).1).1.1
theorem sy_len {y : List Beat} (h : syOk y = true) : 1 ≤ y.length := by
  have hb : beatsOk y = true := by unfold syOk at h; rw [Bool.and_eq_true] at h; exact h.1
  exact (beatsOk_iff.1 hb).2.1
theorem ps_len {q : Psg} (h : psOk q = true) : 1 ≤ q.1.length := (psSh_iff.1 (psOk_iff.1 h).1).1.1
theorem ebN_iff {x : Note} : ebN x = true ↔ (x.1 = 1 ∨ x.2.1.length = 0) ∧ (x.1 = 2 ∨ x.2.2.1.length = 0) ∧ (x.1 = 3 ∨ x.2.2.2.1.length = 0) ∧ (x.1 = 4 ∨ x.2.2.2.2.1.length + x.2.2.2.2.2.length = 0) := by
  unfold ebN ebL
  simp only [Bool.and_eq_true, Bool.or_eq_true, beq_iff_eq]
  constructor
  · rintro ⟨⟨⟨h1, h2⟩, h3⟩, h4⟩
    exact ⟨by omega, by omega, by omega, by omega⟩
  · rintro ⟨h1, h2, h3, h4⟩
    exact ⟨⟨⟨by omega, by omega⟩, by omega⟩, by omega⟩
/-- Three fields are empty: then the kind's own field decides. -/
theorem ntOk_3 {x : Note} (h : cntN x = 3) : ntOk x = swN x := by
  cases he : ebN x with
  | true => exact ntOk_yes he
  | false =>
    rw [ntOk_no he]
    cases hs : swN x with
    | false => rfl
    | true =>
      exfalso
      have hn : ¬ ((x.1 = 1 ∨ x.2.1.length = 0) ∧ (x.1 = 2 ∨ x.2.2.1.length = 0) ∧ (x.1 = 3 ∨ x.2.2.2.1.length = 0) ∧ (x.1 = 4 ∨ x.2.2.2.2.1.length + x.2.2.2.2.2.length = 0)) := by rw [← ebN_iff, he]; decide
      have hk : x.1 = 1 ∨ x.1 = 2 ∨ x.1 = 3 ∨ x.1 = 4 ∨ (x.1 ≠ 1 ∧ x.1 ≠ 2 ∧ x.1 ≠ 3 ∧ x.1 ≠ 4) := by omega
      unfold cntN emp at h
      rcases hk with k | k | k | k | ⟨k1, k2, k3, k4⟩
      · rw [swN_1 k] at hs
        have := ok_len hs
        split at h <;> split at h <;> split at h <;> split at h <;> omega
      · rw [swN_2 k] at hs
        have := m_len hs
        split at h <;> split at h <;> split at h <;> split at h <;> omega
      · rw [swN_3 k] at hs
        have := sy_len hs
        split at h <;> split at h <;> split at h <;> split at h <;> omega
      · rw [swN_4 k] at hs
        have := ps_len hs
        split at h <;> split at h <;> split at h <;> split at h <;> omega
      · rw [swN_0 k1 k2 k3 k4] at hs; cases hs
theorem ntOk_n3 {x : Note} (h : cntN x ≠ 3) : ntOk x = false := by
  cases he : ebN x with
  | false => exact ntOk_no he
  | true =>
    rw [ntOk_yes he]
    cases hs : swN x with
    | false => rfl
    | true =>
      exfalso
      have hn := ebN_iff.1 he
      have hk : x.1 = 1 ∨ x.1 = 2 ∨ x.1 = 3 ∨ x.1 = 4 ∨ (x.1 ≠ 1 ∧ x.1 ≠ 2 ∧ x.1 ≠ 3 ∧ x.1 ≠ 4) := by omega
      unfold cntN emp at h
      rcases hk with k | k | k | k | ⟨k1, k2, k3, k4⟩
      · rw [swN_1 k] at hs
        have := ok_len hs
        split at h <;> split at h <;> split at h <;> split at h <;> omega
      · rw [swN_2 k] at hs
        have := m_len hs
        split at h <;> split at h <;> split at h <;> split at h <;> omega
      · rw [swN_3 k] at hs
        have := sy_len hs
        split at h <;> split at h <;> split at h <;> split at h <;> omega
      · rw [swN_4 k] at hs
        have := ps_len hs
        split at h <;> split at h <;> split at h <;> split at h <;> omega
      · rw [swN_0 k1 k2 k3 k4] at hs; cases hs
/-- How many beats a notation has. -/
def btN (x : Note) : Int := x.2.1.length + x.2.2.1.length + 2 * x.2.2.2.1.length + x.2.2.2.2.1.length
def rNotationBeats (x : Note) : Int × Int := if ntOk x then (btN x, 0) else (0, 1)
end Go.Proofs.Ytkglkpohbckpcaa
