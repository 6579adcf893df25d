/- Plain facts: the prime parts of a pattern. Nothing of the program is named here. -/
import Derived.Test.YteaabniemlnjbaaCv
import Derived.Test.YteaabniemlnjbaaFr
namespace Go.Proofs.Yteaabniemlnjbaa
open Go.RowKit
set_option linter.unusedVariables false

/-- The states before the two beats are equal. -/
theorem repR_air {p : List Int} (h : okP p = true) (t : Nat) : Air p (((repR p).1 : Nat) : Int) t ↔ Air p (((repR p).2 : Nat) : Int) t := by
  have hn := (thOk_iff (okP_th h)).2.1
  obtain ⟨g1, g2⟩ := repR_bd hn
  have g4 : mskF p (repR p).1 = mskF p (repR p).2 := by
    have h0 := repC_all hn
    generalize repR p = R at *
    obtain ⟨i, k⟩ := R
    exact (col2_some h0).2.2.2
  have hH : hiT p ≤ (hgt p : Nat) := by rw [hgt_int]; omega
  generalize (repR p).1 = i at *
  generalize (repR p).2 = k at *
  have e1 : mskF p i = ((stM p (i : Int) (hgt p) : Nat) : Int) := by
    unfold mskF
    rw [if_pos (by omega), List.getD_eq_getElem?_getD, mskP_at (by omega)]; rfl
  have e0 : (mskP p (hgt p)).getD 0 0 = ((stM p ((0 : Nat) : Int) (hgt p) : Nat) : Int) := by
    rw [List.getD_eq_getElem?_getD, mskP_at (by omega)]; rfl
  by_cases hk : k < p.length
  · have e2 : mskF p k = ((stM p (k : Int) (hgt p) : Nat) : Int) := by
      unfold mskF
      rw [if_pos hk, List.getD_eq_getElem?_getD, mskP_at hk]; rfl
    rw [e1, e2] at g4
    exact air_eq_of h hH (by omega) t
  · have hkn : k = p.length := by omega
    have e2 : mskF p k = ((stM p ((0 : Nat) : Int) (hgt p) : Nat) : Int) := by
      unfold mskF
      rw [if_neg hk, e0]
    rw [e1, e2] at g4
    have h1 := air_eq_of h hH (x := (i : Int)) (y := ((0 : Nat) : Int)) (by omega) t
    have h2 := air_per h 0 t
    rw [Int.zero_add] at h2
    rw [hkn, h1, h2]; rfl
theorem cutR_ok {p : List Int} (h : okP p = true) : okP (cutP p (repR p).1 (repR p).2) = true := by
  obtain ⟨g1, g2⟩ := repR_bd (thOk_iff (okP_th h)).2.1
  exact (cut_fold g1 g2 (repR_air h)).ok h (cut_th (okP_th h) g1 g2)
theorem restR_ok {p : List Int} (h : okP p = true) : restP p (repR p).1 (repR p).2 = [] ∨ okP (restP p (repR p).1 (repR p).2) = true := by
  obtain ⟨g1, g2⟩ := repR_bd (thOk_iff (okP_th h)).2.1
  by_cases hne : (repR p).2 - (repR p).1 < p.length
  · exact .inr ((rest_fold h g1 g2 hne (repR_air h)).ok h (rest_th (okP_th h) g1 g2 hne))
  · left
    apply List.eq_nil_of_length_eq_zero
    rw [restP_len (by omega) g2]; omega
/-- The prime parts. -/
def partsF : Nat → List Int → List (List Int)
  | 0, _ => []
  | f + 1, p => if p.length = 0 then [] else cutP p (repR p).1 (repR p).2 :: partsF f (restP p (repR p).1 (repR p).2)
def partsP (p : List Int) : List (List Int) := partsF p.length p
theorem partsF_no (f : Nat) {p : List Int} (h : p.length = 0) : partsF f p = [] := by
  cases f with
  | zero => rfl
  | succ f => simp [partsF, h]
theorem partsF_go {f : Nat} {p : List Int} (h : ¬ p.length = 0) : partsF (f + 1) p = cutP p (repR p).1 (repR p).2 :: partsF f (restP p (repR p).1 (repR p).2) := by simp [partsF, h]
theorem partsF_row : ∀ (f : Nat) (p : List Int), p.length ≤ 12 → (partsF f p).length ≤ p.length ∧ ∀ r ∈ partsF f p, r.length ≤ 12 := by
  intro f
  induction f with
  | zero => intro p _; simp [partsF]
  | succ f ih =>
    intro p hp
    by_cases h : p.length = 0
    · rw [partsF_no _ h]; simp
    · rw [partsF_go h]
      obtain ⟨g1, g2⟩ := repR_bd (p := p) (by omega)
      have hr : (restP p (repR p).1 (repR p).2).length = p.length - ((repR p).2 - (repR p).1) := restP_len (by omega) g2
      obtain ⟨i1, i2⟩ := ih (restP p (repR p).1 (repR p).2) (by omega)
      refine ⟨by rw [List.length_cons]; omega, fun r hr => ?_⟩
      rcases List.mem_cons.1 hr with rfl | hr
      · rw [cutP_len g2]; omega
      · exact i2 r hr
end Go.Proofs.Yteaabniemlnjbaa
