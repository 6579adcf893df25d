/- Plain facts: rearrangements of the first numbers, and the patterns that are drawn by them. Nothing of the program is named here. -/
import Derived.Test.YtlbhfjbbkkkldaaO
namespace Go.Proofs.Ytlbhfjbbkkkldaa
open Go.RowKit
set_option linter.unusedVariables false

/-- A list of the numbers below k, each once. -/
def Perm (k : Nat) (L : List Int) : Prop := L.length = k ∧ (∀ j, j < k → 0 ≤ L.getD j 0 ∧ L.getD j 0 < k) ∧ ∀ i j, i < k → j < k → i ≠ j → L.getD i 0 ≠ L.getD j 0
theorem Perm.nil : Perm 0 [] := ⟨rfl, fun j h => by omega, fun i j h => by omega⟩
theorem getD_set (L : List Int) (a : Nat) (x : Int) (j : Nat) : (L.set a x).getD j 0 = if a = j ∧ j < L.length then x else L.getD j 0 := by
  rw [List.getD_eq_getElem?_getD, List.getD_eq_getElem?_getD, List.getElem?_set]
  by_cases e : a = j
  · subst e
    by_cases h : a < L.length
    · simp [h]
    · simp [h]
  · simp [e]
/-- One number more, exchanged with the one at a place. -/
def swapIn (L : List Int) (k a : Nat) : List Int := ((L ++ [(k : Int)]).set k ((L ++ [(k : Int)]).getD a 0)).set a (k : Int)
theorem swapIn_at {L : List Int} {k a : Nat} (h : L.length = k) (ha : a ≤ k) (j : Nat) (hj : j ≤ k) : (swapIn L k a).getD j 0 = if j = a then (k : Int) else if j = k then L.getD a 0 else L.getD j 0 := by
  unfold swapIn
  have hl : (L ++ [(k : Int)]).length = k + 1 := by simp [h]
  have happ : ∀ i, i < k → (L ++ [(k : Int)]).getD i 0 = L.getD i 0 := fun i hi => by
    rw [List.getD_eq_getElem?_getD, List.getD_eq_getElem?_getD, List.getElem?_append_left (by omega)]
  rw [getD_set, getD_set, List.length_set, hl]
  by_cases e : j = a
  · subst e; simp; omega
  · have e2 : ¬ (a = j ∧ j < k + 1) := by omega
    rw [if_neg e2, if_neg e]
    by_cases e3 : j = k
    · subst e3
      rw [if_pos (by omega), if_pos rfl]
      exact happ a (by omega)
    · rw [if_neg (by omega), if_neg e3, happ j (by omega)]
theorem swapIn_len {L : List Int} {k a : Nat} (h : L.length = k) : (swapIn L k a).length = k + 1 := by simp [swapIn, h]
theorem Perm.swapIn {k a : Nat} {L : List Int} (h : Perm k L) (ha : a ≤ k) : Perm (k + 1) (swapIn L k a) := by
  obtain ⟨h1, h2, h3⟩ := h
  refine ⟨swapIn_len h1, fun j hj => ?_, fun i j hi hj hij => ?_⟩
  · rw [swapIn_at h1 ha j (by omega)]
    split
    · omega
    · split
      · rename_i e1 e2
        have := h2 a (by omega)
        omega
      · rename_i e1 e2
        have := h2 j (by omega)
        omega
  · rw [swapIn_at h1 ha i (by omega), swapIn_at h1 ha j (by omega)]
    by_cases e1 : i = a
    · rw [if_pos e1, if_neg (by omega)]
      by_cases e2 : j = k
      · rw [if_pos e2]; have := h2 a (by omega); omega
      · rw [if_neg e2]; have := h2 j (by omega); omega
    · rw [if_neg e1]
      by_cases e3 : j = a
      · rw [if_pos e3]
        by_cases e2 : i = k
        · rw [if_pos e2]; have := h2 a (by omega); omega
        · rw [if_neg e2]; have := h2 i (by omega); omega
      · rw [if_neg e3]
        by_cases e2 : i = k
        · rw [if_pos e2]
          have ej : ¬ j = k := by omega
          rw [if_neg ej]
          exact h3 a j (by omega) (by omega) (by omega)
        · rw [if_neg e2]
          by_cases e4 : j = k
          · rw [if_pos e4]; exact h3 i a (by omega) (by omega) (by omega)
          · rw [if_neg e4]; exact h3 i j (by omega) (by omega) hij
/-- Throws that land as a rearrangement says are a pattern. -/
def LandsAs (n : Nat) (L out : List Int) : Prop := ∀ i, i < out.length → (0 ≤ out.getD i 0 ∧ out.getD i 0 ≤ 15) ∧ ((i : Int) + out.getD i 0) % (n : Int) = L.getD i 0
theorem LandsAs.nil (n : Nat) (L : List Int) : LandsAs n L [] := fun i h => by simp at h
theorem LandsAs.snoc {n : Nat} {L out : List Int} {t : Int} (h : LandsAs n L out) (h0 : 0 ≤ t) (h1 : t ≤ 15) (e : ((out.length : Int) + t) % (n : Int) = L.getD out.length 0) : LandsAs n L (out ++ [t]) := by
  intro i hi
  rw [List.length_append, List.length_singleton] at hi
  rcases Nat.lt_or_eq_of_le (Nat.le_of_lt_succ hi) with k | rfl
  · have e2 : (out ++ [t]).getD i 0 = out.getD i 0 := by rw [List.getD_eq_getElem?_getD, List.getD_eq_getElem?_getD, List.getElem?_append_left k]
    rw [e2]; exact h i k
  · have e2 : (out ++ [t]).getD out.length 0 = t := by rw [List.getD_eq_getElem?_getD, List.getElem?_append_right (Nat.le_refl _)]; simp
    rw [e2]; exact ⟨⟨h0, h1⟩, e⟩
theorem okP_of_lands {n : Nat} {L out : List Int} (hP : Perm n L) (hn1 : 1 ≤ n) (hn2 : n ≤ 12) (hl : out.length = n) (h : LandsAs n L out) : okP out = true := by
  have hth : thOk out = true := thOk_mk (fun x hx => by
    obtain ⟨i, hi⟩ := List.getElem?_of_mem hx
    have := (h i (List.getElem?_eq_some_iff.1 hi).1).1
    rw [List.getD_eq_getElem?_getD, hi] at this
    exact this) (by omega) (by omega)
  unfold okP
  rw [hth, Bool.true_and]
  cases hc : colP out with
  | none => rfl
  | some x =>
    exfalso
    obtain ⟨a, b⟩ := x
    obtain ⟨g1, g2, g3, g4⟩ := col2_some (show col2 (Ld out) out.length 0 = some (a, b) from hc)
    have ha := (h a (by omega)).2
    have hb := (h b (by omega)).2
    unfold Ld at g4
    rw [hl] at g4
    rw [ha, hb] at g4
    exact hP.2.2 a b (by omega) (by omega) (by omega) g4
theorem land_mod {n i : Nat} {l t : Int} (r : Int) (h0 : 0 ≤ l) (h1 : l < n) (ht : t = (l - i) % (n : Int) + r * (n : Int)) : ((i : Int) + t) % (n : Int) = l := by
  have h2 := Int.mul_ediv_add_emod (l - i) (n : Int)
  have e : (i : Int) + t = l + (n : Int) * (r - (l - i) / (n : Int)) := by
    rw [Int.mul_sub, Int.mul_comm (n : Int) r]; omega
  rw [e, Int.add_mul_emod_self_left, Int.emod_eq_of_lt h0 h1]
end Go.Proofs.Ytlbhfjbbkkkldaa
