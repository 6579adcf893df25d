/- Plain facts: the numbers of the props that are thrown. Nothing of the program is named here. -/
import Derived.Test.YteaabniemlnjbaaPr
import Derived.Test.YteaabniemlnjbaaTn
namespace Go.Proofs.Yteaabniemlnjbaa
open Go.RowKit
set_option linter.unusedVariables false

theorem cnt_snoc (p : List Int) (b : Int) (H : Nat) : cnt p b (H + 1) = cnt p b H + (if lf p (b + (H : Int)) < b then 1 else 0) := rfl
theorem lf_zero {p : List Int} (h : okP p = true) {b : Int} (hb : atB p b = 0) : lf p b = b := lf_eq_of h (by rw [hb]; omega)
theorem lf_lt {p : List Int} (h : okP p = true) {b : Int} (hb : atB p b ≠ 0) : lf p b < b := by
  have h1 := (lf_bd h b).2
  rcases Int.lt_or_eq_of_le h1 with k | k
  · exact k
  · exact absurd (lf_self h b k) hb
/-- The count behind f more beats. -/
theorem prF_split (p : List Int) (hp : okP p = true) : ∀ (f g : Nat) (b : Nat) (out : List Int), prF p (f + g) (b : Int) out (cnt p 0 b : Nat) = prF p g ((b + f : Nat) : Int) (prF p f (b : Int) out (cnt p 0 b : Nat)) (cnt p 0 (b + f) : Nat) := by
  intro f
  induction f with
  | zero => intro g b out; simp [prF]
  | succ f ih =>
    intro g b out
    have e : f + 1 + g = (f + g) + 1 := by omega
    have e2 : (b : Int) + 1 = ((b + 1 : Nat) : Int) := by omega
    have e3 : b + (f + 1) = (b + 1) + f := by omega
    rw [e, e3]
    have hc := cnt_snoc p 0 b
    rw [Int.zero_add] at hc
    by_cases h1 : atB p (b : Int) = 0
    · have h2 : ¬ lf p (b : Int) < 0 := by rw [lf_zero hp h1]; omega
      rw [if_neg h2] at hc
      have hc2 : cnt p 0 b = cnt p 0 (b + 1) := hc.symm
      rw [prF_zero h1, prF_zero h1, e2, hc2]
      exact ih g (b + 1) _
    · by_cases h2 : lf p (b : Int) < 0
      · rw [if_pos h2] at hc
        have hc' : ((cnt p 0 b : Nat) : Int) + 1 = (cnt p 0 (b + 1) : Nat) := by omega
        rw [prF_new h1 h2, prF_new h1 h2, e2, hc']
        exact ih g (b + 1) _
      · rw [if_neg h2] at hc
        have hc2 : cnt p 0 b = cnt p 0 (b + 1) := hc.symm
        rw [prF_old h1 h2, prF_old h1 h2, e2, hc2]
        exact ih g (b + 1) _
/-- The prop that is thrown at a beat. -/
def prv (p : List Int) (b : Nat) : Int := if atB p (b : Int) = 0 then -1 else if lf p (b : Int) < 0 then (cnt p 0 b : Nat) else (prs p b).getD (lf p (b : Int)).toNat 0
theorem prs_step {p : List Int} (hp : okP p = true) (b : Nat) : prs p (b + 1) = prs p b ++ [prv p b] := by
  have h := prF_split p hp b 1 0 []
  have hz : ((cnt p 0 0 : Nat) : Int) = 0 := rfl
  have e1 : ((0 : Nat) : Int) = 0 := rfl
  rw [hz, e1, Nat.zero_add] at h
  show prF p (b + 1) 0 [] 0 = prF p b 0 [] 0 ++ [prv p b]
  rw [h]
  unfold prv prs
  by_cases h1 : atB p (b : Int) = 0
  · rw [prF_zero h1, if_pos h1]; rfl
  · by_cases h2 : lf p (b : Int) < 0
    · rw [prF_new h1 h2, if_neg h1, if_pos h2]; rfl
    · rw [prF_old h1 h2, if_neg h1, if_neg h2]; rfl
theorem prs_at {p : List Int} (hp : okP p = true) : ∀ (N b : Nat), b < N → (prs p N)[b]? = some (prv p b) := by
  intro N
  induction N with
  | zero => intro b h; omega
  | succ N ih =>
    intro b h
    rw [prs_step hp]
    rcases Nat.lt_or_ge b N with k | k
    · rw [List.getElem?_append_left (by rw [prs_len]; exact k)]; exact ih b k
    · have e : b = N := by omega
      subst e
      rw [List.getElem?_append_right (by rw [prs_len]; exact Nat.le_refl _), prs_len]; simp
theorem prs_getD {p : List Int} (hp : okP p = true) {N b : Nat} (h : b < N) : (prs p N).getD b 0 = prv p b := by
  rw [List.getD_eq_getElem?_getD, prs_at hp N b h]; rfl
theorem prv_zero {p : List Int} {b : Nat} (h : atB p (b : Int) = 0) : prv p b = -1 := by simp [prv, h]
theorem prv_new {p : List Int} {b : Nat} (h : atB p (b : Int) ≠ 0) (h2 : lf p (b : Int) < 0) : prv p b = (cnt p 0 b : Nat) := by simp [prv, h, h2]
theorem prv_old {p : List Int} (hp : okP p = true) {b : Nat} (h : atB p (b : Int) ≠ 0) (h2 : ¬ lf p (b : Int) < 0) : prv p b = prv p (lf p (b : Int)).toNat := by
  have h3 := lf_lt hp h
  rw [← prs_getD hp (N := b) (b := (lf p (b : Int)).toNat) (by omega)]
  simp only [prv, h, h2, if_false]
theorem prv_bd {p : List Int} (hp : okP p = true) : ∀ b : Nat, (atB p (b : Int) = 0 ∧ prv p b = -1) ∨ (atB p (b : Int) ≠ 0 ∧ lf p (b : Int) < 0 ∧ prv p b = (cnt p 0 b : Nat) ∧ cnt p 0 (b + 1) = cnt p 0 b + 1) ∨ (atB p (b : Int) ≠ 0 ∧ 0 ≤ lf p (b : Int) ∧ 0 ≤ prv p b ∧ prv p b < (cnt p 0 b : Nat) ∧ cnt p 0 (b + 1) = cnt p 0 b) := by
  have hmono : ∀ (i j : Nat), i ≤ j → cnt p 0 i ≤ cnt p 0 j := by
    intro i j h
    induction j with
    | zero => have : i = 0 := by omega
              subst this; exact Nat.le_refl _
    | succ j ih =>
      rcases Nat.lt_or_eq_of_le h with k | k
      · have h1 := ih (by omega)
        have h2 := cnt_snoc p 0 j
        omega
      · subst k; exact Nat.le_refl _
  intro b
  induction b using Nat.strongRecOn with
  | ind b ih =>
    have hc := cnt_snoc p 0 b
    rw [Int.zero_add] at hc
    by_cases h1 : atB p (b : Int) = 0
    · exact .inl ⟨h1, prv_zero h1⟩
    · by_cases h2 : lf p (b : Int) < 0
      · rw [if_pos h2] at hc
        exact .inr (.inl ⟨h1, h2, prv_new h1 h2, hc⟩)
      · rw [if_neg h2] at hc
        have h3 := lf_lt hp h1
        obtain ⟨a, ha⟩ := Int.eq_ofNat_of_zero_le (show 0 ≤ lf p (b : Int) by omega)
        have hab : a < b := by omega
        have e := prv_old hp h1 h2
        rw [ha, Int.toNat_natCast] at e
        have hca := hmono (a + 1) b (by omega)
        -- what was thrown there has landed here: it is no 0
        have hna : atB p (a : Int) ≠ 0 := by
          intro z
          have := lf_at hp (b : Int)
          rw [ha, z] at this
          omega
        refine .inr (.inr ⟨h1, by omega, ?_⟩)
        rw [e]
        rcases ih a hab with ⟨g1, _⟩ | ⟨_, _, g2, g3⟩ | ⟨_, _, g2, g3, g4⟩
        · exact absurd g1 hna
        · omega
        · omega
/-- A prop is thrown again where it lands. -/
theorem prv_again {p : List Int} (hp : okP p = true) {b d : Nat} (h : atB p (b : Int) = (d : Int)) (hd : 0 < d) : prv p (b + d) = prv p b := by
  have h1 : lf p ((b + d : Nat) : Int) = (b : Int) := lf_eq_of hp (by rw [h]; omega)
  have h2 : atB p ((b + d : Nat) : Int) ≠ 0 := by
    intro z
    have := lf_zero hp z
    omega
  rw [prv_old hp h2 (by omega), h1, Int.toNat_natCast]
theorem cnt_top {p : List Int} (hp : okP p = true) {f : Nat} (h : 15 ≤ f) : ((cnt p 0 f : Nat) : Int) = prN p := by
  have hb := (hiT_bd (okP_th hp)).2
  exact (prN_cnt hp (H := f) (by omega)).symm
theorem cnt_under {p : List Int} (hp : okP p = true) (f : Nat) : ((cnt p 0 f : Nat) : Int) ≤ prN p := by
  rcases Nat.lt_or_ge f 15 with k | k
  · rw [← cnt_top hp (Nat.le_refl 15)]
    have hmono : ∀ j, f ≤ j → cnt p 0 f ≤ cnt p 0 j := by
      intro j
      induction j with
      | zero => intro h; have : f = 0 := by omega
                subst this; exact Nat.le_refl _
      | succ j ih =>
        intro h
        rcases Nat.lt_or_eq_of_le h with k | k
        · have h1 := ih (by omega)
          have h2 := cnt_snoc p 0 j
          omega
        · subst k; exact Nat.le_refl _
    have := hmono 15 (by omega)
    omega
  · rw [cnt_top hp k]; exact Int.le_refl _
end Go.Proofs.Yteaabniemlnjbaa
