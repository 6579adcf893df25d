/- Plain facts: a pattern that is cut between two equal states falls into two patterns. Nothing of the program is named here. -/
import Derived.Test.YtlbhfjbbkkkldaaCu
import Derived.Test.YtlbhfjbbkkkldaaPc
namespace Go.Proofs.Ytlbhfjbbkkkldaa
open Go.RowKit
set_option linter.unusedVariables false

theorem stM_congr {p q : List Int} {x y : Int} : ∀ {H : Nat}, (∀ t, t < H → (Air q x t ↔ Air p y t)) → stM q x H = stM p y H := by
  intro H
  induction H with
  | zero => intro _; rfl
  | succ H ih =>
    intro h
    have h1 := ih fun t ht => h t (by omega)
    have h2 := h H (by omega)
    unfold Air at h2
    by_cases k : lf q (x + (H : Int)) < x
    · rw [stM_yes k, stM_yes (h2.1 k), h1]
    · rw [stM_not k, stM_not (fun e => k (h2.2 e)), h1]
theorem stM_inj {p q : List Int} {x y : Int} : ∀ {H : Nat}, stM q x H = stM p y H → ∀ t, t < H → (Air q x t ↔ Air p y t) := by
  intro H
  induction H with
  | zero => intro _ t ht; omega
  | succ H ih =>
    intro h t ht
    have l1 := stM_lt q x H
    have l2 := stM_lt p y H
    have key : stM q x H = stM p y H ∧ (Air q x H ↔ Air p y H) := by
      unfold Air
      by_cases k : lf q (x + (H : Int)) < x
      · by_cases k2 : lf p (y + (H : Int)) < y
        · rw [stM_yes k, stM_yes k2] at h
          exact ⟨by omega, by simp [k, k2]⟩
        · rw [stM_yes k, stM_not k2] at h; omega
      · by_cases k2 : lf p (y + (H : Int)) < y
        · rw [stM_not k, stM_yes k2] at h; omega
        · rw [stM_not k, stM_not k2] at h
          exact ⟨h, by simp [k, k2]⟩
    rcases Nat.lt_or_eq_of_le (Nat.le_of_lt_succ ht) with e | rfl
    · exact ih key.1 t e
    · exact key.2
theorem air_hi {p : List Int} (h : okP p = true) {b : Int} {t : Nat} (ht : hiT p ≤ t) : ¬ Air p b t := by
  have e := lf_at h (b + (t : Int))
  obtain ⟨H, hH⟩ := Int.eq_ofNat_of_zero_le (hiT_bd (okP_th h)).1
  have := atB_le (p := p) (H := H) (fun i => by have := pN_hi h i; omega) (lf p (b + (t : Int)))
  unfold Air; omega
theorem air_eq_of {p : List Int} (h : okP p = true) {x y : Int} {H : Nat} (hH : hiT p ≤ H) (e : stM p x H = stM p y H) (t : Nat) : Air p x t ↔ Air p y t := by
  rcases Nat.lt_or_ge t H with k | k
  · exact stM_inj e t k
  · have h1 := air_hi h (b := x) (t := t) (by omega)
    have h2 := air_hi h (b := y) (t := t) (by omega)
    simp [h1, h2]
/-- The part that is cut out, and what is left. -/
def cutP (p : List Int) (i k : Nat) : List Int := (p.take k).drop i
def restP (p : List Int) (i k : Nat) : List Int := p.take i ++ p.drop k
theorem cutP_len {p : List Int} {i k : Nat} (hk : k ≤ p.length) : (cutP p i k).length = k - i := by simp [cutP]; omega
theorem restP_len {p : List Int} {i k : Nat} (hik : i ≤ k) (hk : k ≤ p.length) : (restP p i k).length = p.length - (k - i) := by simp [restP]; omega
theorem cutP_mem {p : List Int} {i k : Nat} {x : Int} (h : x ∈ cutP p i k) : x ∈ p := List.mem_of_mem_take (List.mem_of_mem_drop h)
theorem restP_mem {p : List Int} {i k : Nat} {x : Int} (h : x ∈ restP p i k) : x ∈ p := by
  rcases List.mem_append.1 h with h | h
  · exact List.mem_of_mem_take h
  · exact List.mem_of_mem_drop h
theorem cutP_at {p : List Int} {i k j : Nat} (hj : i + j < k) (hk : k ≤ p.length) : (cutP p i k).getD j 0 = p.getD (i + j) 0 := by
  rw [List.getD_eq_getElem?_getD, List.getD_eq_getElem?_getD, cutP, List.getElem?_drop, List.getElem?_take_of_lt (by omega)]
theorem restP_lo {p : List Int} {i k j : Nat} (hj : j < i) (hi : i ≤ p.length) : (restP p i k).getD j 0 = p.getD j 0 := by
  rw [List.getD_eq_getElem?_getD, List.getD_eq_getElem?_getD, restP, List.getElem?_append_left (by rw [List.length_take]; omega), List.getElem?_take_of_lt hj]
theorem restP_hi {p : List Int} {i k j : Nat} (hj : i ≤ j) (hi : i ≤ p.length) : (restP p i k).getD j 0 = p.getD (k + (j - i)) 0 := by
  rw [List.getD_eq_getElem?_getD, List.getD_eq_getElem?_getD, restP, List.getElem?_append_right (by rw [List.length_take]; omega), List.length_take, Nat.min_eq_left hi, List.getElem?_drop]
theorem atB_lt {p : List Int} {b : Nat} (h : b < p.length) : atB p (b : Int) = p.getD b 0 := by
  unfold atB; rw [Int.emod_eq_of_lt (by omega) (by omega), Int.toNat_natCast]
/-- The beats of the part. -/
def cutF (i k : Nat) (x : Int) : Int := (i : Int) + x % ((k : Int) - (i : Int))
theorem cut_fold {p : List Int} {i k : Nat} (hik : i < k) (hk : k ≤ p.length) (he : ∀ t, Air p (i : Int) t ↔ Air p (k : Int) t) : Fold p (cutP p i k) (cutF i k) := by
  have hm : (0 : Int) < (k : Int) - (i : Int) := by omega
  constructor
  · intro x
    have h0 : 0 ≤ x % ((k : Int) - (i : Int)) := Int.emod_nonneg _ (by omega)
    have h1 : x % ((k : Int) - (i : Int)) < (k : Int) - (i : Int) := Int.emod_lt_of_pos _ hm
    obtain ⟨j, hj⟩ := Int.eq_ofNat_of_zero_le h0
    have e1 : atB (cutP p i k) x = (cutP p i k).getD j 0 := by
      unfold atB
      rw [cutP_len hk]
      have : ((k - i : Nat) : Int) = (k : Int) - (i : Int) := by omega
      rw [this, hj, Int.toNat_natCast]
    have e2 : cutF i k x = ((i + j : Nat) : Int) := by unfold cutF; rw [hj]; omega
    rw [e1, e2, atB_lt (by omega), cutP_at (by omega) hk]
  · intro x t
    have h0 : 0 ≤ x % ((k : Int) - (i : Int)) := Int.emod_nonneg _ (by omega)
    have h1 : x % ((k : Int) - (i : Int)) < (k : Int) - (i : Int) := Int.emod_lt_of_pos _ hm
    have h2 := Int.emod_add_emod x ((k : Int) - (i : Int)) 1
    unfold cutF
    by_cases c : x % ((k : Int) - (i : Int)) + 1 < (k : Int) - (i : Int)
    · rw [← h2, Int.emod_eq_of_lt (by omega) c]
      have e : (i : Int) + x % ((k : Int) - (i : Int)) + 1 = (i : Int) + (x % ((k : Int) - (i : Int)) + 1) := by omega
      rw [e]
    · have e : x % ((k : Int) - (i : Int)) + 1 = (k : Int) - (i : Int) := by omega
      rw [← h2, e, Int.emod_self]
      have e2 : (i : Int) + x % ((k : Int) - (i : Int)) + 1 = (k : Int) := by omega
      rw [e2, Int.add_zero, he]
/-- The beats of the rest. -/
def restF (n i k : Nat) (x : Int) : Int := if x % ((n : Int) - ((k : Int) - (i : Int))) < (i : Int) then x % ((n : Int) - ((k : Int) - (i : Int))) else x % ((n : Int) - ((k : Int) - (i : Int))) + ((k : Int) - (i : Int))
theorem rest_fold {p : List Int} (h : okP p = true) {i k : Nat} (hik : i < k) (hk : k ≤ p.length) (hne : k - i < p.length) (he : ∀ t, Air p (i : Int) t ↔ Air p (k : Int) t) : Fold p (restP p i k) (restF p.length i k) := by
  have hm : (0 : Int) < (p.length : Int) - ((k : Int) - (i : Int)) := by omega
  have hz : ∀ t, Air p (p.length : Int) t ↔ Air p 0 t := fun t => by
    have := air_per h 0 t
    rwa [Int.zero_add] at this
  constructor
  · intro x
    have h0 : 0 ≤ x % ((p.length : Int) - ((k : Int) - (i : Int))) := Int.emod_nonneg _ (by omega)
    have h1 : x % ((p.length : Int) - ((k : Int) - (i : Int))) < (p.length : Int) - ((k : Int) - (i : Int)) := Int.emod_lt_of_pos _ hm
    obtain ⟨j, hj⟩ := Int.eq_ofNat_of_zero_le h0
    have e1 : atB (restP p i k) x = (restP p i k).getD j 0 := by
      unfold atB
      rw [restP_len (by omega) hk]
      have : ((p.length - (k - i) : Nat) : Int) = (p.length : Int) - ((k : Int) - (i : Int)) := by omega
      rw [this, hj, Int.toNat_natCast]
    unfold restF
    rw [e1, hj]
    by_cases c : (j : Int) < (i : Int)
    · rw [if_pos c, atB_lt (by omega), restP_lo (by omega) (by omega)]
    · have e2 : (j : Int) + ((k : Int) - (i : Int)) = ((k + (j - i) : Nat) : Int) := by omega
      rw [if_neg c, e2, atB_lt (by omega), restP_hi (by omega) (by omega)]
  · intro x t
    have h0 : 0 ≤ x % ((p.length : Int) - ((k : Int) - (i : Int))) := Int.emod_nonneg _ (by omega)
    have h1 : x % ((p.length : Int) - ((k : Int) - (i : Int))) < (p.length : Int) - ((k : Int) - (i : Int)) := Int.emod_lt_of_pos _ hm
    have h2 := Int.emod_add_emod x ((p.length : Int) - ((k : Int) - (i : Int))) 1
    unfold restF
    rw [← h2]
    generalize x % ((p.length : Int) - ((k : Int) - (i : Int))) = r at *
    clear h2
    by_cases c : r + 1 < (p.length : Int) - ((k : Int) - (i : Int))
    · rw [Int.emod_eq_of_lt (by omega) c]
      by_cases c1 : r < (i : Int)
      · rw [if_pos c1]
        by_cases c2 : r + 1 < (i : Int)
        · rw [if_pos c2]
        · have e1 : r + 1 = (i : Int) := by omega
          have e2 : (i : Int) + ((k : Int) - (i : Int)) = (k : Int) := by omega
          rw [if_neg c2, e1, e2, he]
      · have e1 : r + ((k : Int) - (i : Int)) + 1 = r + 1 + ((k : Int) - (i : Int)) := by omega
        rw [if_neg c1, if_neg (by omega), e1]
    · have e : r + 1 = (p.length : Int) - ((k : Int) - (i : Int)) := by omega
      rw [e, Int.emod_self]
      by_cases c1 : r < (i : Int)
      · have e1 : r + 1 = (i : Int) := by omega
        have e2 : (k : Int) = (p.length : Int) := by omega
        rw [if_pos c1, e1, if_pos (by omega), he, e2, hz]
      · have e1 : r + ((k : Int) - (i : Int)) + 1 = (p.length : Int) := by omega
        rw [if_neg c1, e1, hz]
        by_cases c2 : (0 : Int) < (i : Int)
        · rw [if_pos c2]
        · have e3 : i = 0 := by omega
          have e2 : (0 : Int) + ((k : Int) - (i : Int)) = (k : Int) := by omega
          rw [if_neg c2, e2, ← he, e3]; rfl
theorem cut_th {p : List Int} (h : thOk p = true) {i k : Nat} (hik : i < k) (hk : k ≤ p.length) : thOk (cutP p i k) = true := by
  obtain ⟨h1, h2, h3⟩ := thOk_iff h
  exact thOk_mk (fun x hx => h1 x (cutP_mem hx)) (by rw [cutP_len hk]; omega) (by rw [cutP_len hk]; omega)
theorem rest_th {p : List Int} (h : thOk p = true) {i k : Nat} (hik : i < k) (hk : k ≤ p.length) (hne : k - i < p.length) : thOk (restP p i k) = true := by
  obtain ⟨h1, h2, h3⟩ := thOk_iff h
  exact thOk_mk (fun x hx => h1 x (restP_mem hx)) (by rw [restP_len (by omega) hk]; omega) (by rw [restP_len (by omega) hk]; omega)
end Go.Proofs.Ytlbhfjbbkkkldaa
