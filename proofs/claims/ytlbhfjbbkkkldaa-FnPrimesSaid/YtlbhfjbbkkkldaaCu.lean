/- Plain facts: patterns whose beats are beats of another pattern, in an order that the states allow: cuts, rotations, repetitions. Nothing of the program is named here. -/
import Derived.Test.YtlbhfjbbkkkldaaJt
namespace Go.Proofs.Ytlbhfjbbkkkldaa
open Go.RowKit
set_option linter.unusedVariables false

/-- Before the beat b a prop is in the air that lands t beats later. -/
def Air (p : List Int) (b : Int) (t : Nat) : Prop := lf p (b + (t : Int)) < b
theorem inj_of_ok {p : List Int} (h : okP p = true) {a b : Int} (hab : a ≠ b) : a + atB p a ≠ b + atB p b := by
  intro e
  have h1 := lf_eq_of h (b := a) (c := a + atB p a) rfl
  have h2 := lf_eq_of h (b := b) (c := a + atB p a) e
  omega
theorem atB_per (p : List Int) (b r : Int) : atB p (b + r * (p.length : Int)) = atB p b := by
  unfold atB; rw [Int.add_mul_emod_self_right]
theorem ok_of_inj {q : List Int} (h : thOk q = true) (hinj : ∀ a b : Int, a < b → a + atB q a ≠ b + atB q b) : okP q = true := by
  have hl := (thOk_iff h).2.1
  unfold okP
  rw [h, Bool.true_and]
  cases hc : colP q with
  | none => rfl
  | some x =>
    exfalso
    obtain ⟨a, b⟩ := x
    obtain ⟨g1, g2, g3, g4⟩ := col2_some (show col2 (Ld q) q.length 0 = some (a, b) from hc)
    have ha : atB q (a : Int) = q.getD a 0 := by unfold atB; rw [Int.emod_eq_of_lt (by omega) (by omega), Int.toNat_natCast]
    have hb : atB q (b : Int) = q.getD b 0 := by unfold atB; rw [Int.emod_eq_of_lt (by omega) (by omega), Int.toNat_natCast]
    unfold Ld at g4
    rw [← ha, ← hb] at g4
    obtain ⟨r, hr⟩ := Int.dvd_of_emod_eq_zero (Int.emod_eq_emod_iff_emod_sub_eq_zero.1 g4)
    have hbr := atB_per q (b : Int) r
    have e : (a : Int) + atB q a = ((b : Int) + r * (q.length : Int)) + atB q ((b : Int) + r * (q.length : Int)) := by
      rw [hbr]
      have : (q.length : Int) * r = r * (q.length : Int) := Int.mul_comm _ _
      omega
    rcases Int.lt_trichotomy (a : Int) ((b : Int) + r * (q.length : Int)) with k | k | k
    · exact hinj _ _ k e
    · -- the two beats are one: not so
      rcases Int.lt_trichotomy r 0 with kr | kr | kr
      · have : r * (q.length : Int) ≤ -1 * (q.length : Int) := Int.mul_le_mul_of_nonneg_right (by omega) (by omega)
        omega
      · subst kr; omega
      · have : 1 * (q.length : Int) ≤ r * (q.length : Int) := Int.mul_le_mul_of_nonneg_right (by omega) (by omega)
        omega
    · exact hinj _ _ k e.symm
/-- q's beats are beats of p, in an order that the states allow. -/
def Fold (p q : List Int) (f : Int → Int) : Prop := (∀ x, atB q x = atB p (f x)) ∧ ∀ x t, Air p (f x + 1) t ↔ Air p (f (x + 1)) t
section
variable {p q : List Int} {f : Int → Int}
theorem Fold.fly (h : okP p = true) (hf : Fold p q f) (a : Int) : ∀ (d : Nat) (t : Nat), (d : Int) + 1 + (t : Int) = atB q a → Air p (f (a + 1 + (d : Int))) t := by
  intro d
  induction d with
  | zero =>
    intro t ht
    have e : a + 1 + ((0 : Nat) : Int) = a + 1 := by omega
    rw [e, ← hf.2]
    have := lf_eq_of h (b := f a) (c := f a + 1 + (t : Int)) (by rw [← hf.1]; omega)
    unfold Air; omega
  | succ d ih =>
    intro t ht
    have h1 := ih (t + 1) (by omega)
    have e : a + 1 + ((d + 1 : Nat) : Int) = (a + 1 + (d : Int)) + 1 := by omega
    rw [e, ← hf.2]
    unfold Air at h1 ⊢
    have e2 : f (a + 1 + (d : Int)) + ((t + 1 : Nat) : Int) = f (a + 1 + (d : Int)) + 1 + (t : Int) := by omega
    rw [e2] at h1
    omega
theorem Fold.ok (h : okP p = true) (hq : thOk q = true) (hf : Fold p q f) : okP q = true := by
  refine ok_of_inj hq fun a b hab e => ?_
  have hb0 : 0 ≤ atB q b := by rw [hf.1]; exact (atB_bd h _).1
  obtain ⟨d, hd⟩ := Int.eq_ofNat_of_zero_le (show 0 ≤ b - a - 1 by omega)
  obtain ⟨t, ht⟩ := Int.eq_ofNat_of_zero_le hb0
  have h1 := hf.fly h a d t (by omega)
  have e1 : a + 1 + (d : Int) = b := by omega
  rw [e1] at h1
  have h2 := lf_eq_of h (b := f b) (c := f b + (t : Int)) (by rw [← hf.1]; omega)
  unfold Air at h1
  omega
theorem air_high (h : okP p = true) {b : Int} {t : Nat} (ht : 15 ≤ t) : ¬ Air p b t := by
  have := lf_bd h (b + (t : Int))
  unfold Air; omega
theorem Fold.air (h : okP p = true) (hq : thOk q = true) (hf : Fold p q f) (x : Int) (t : Nat) : Air q x t ↔ Air p (f x) t := by
  have hok := hf.ok h hq
  constructor
  · intro k
    have e := lf_at hok (x + (t : Int))
    unfold Air at k
    obtain ⟨d, hd⟩ := Int.eq_ofNat_of_zero_le (show 0 ≤ x - lf q (x + (t : Int)) - 1 by omega)
    have := hf.fly h (lf q (x + (t : Int))) d t (by omega)
    have e1 : lf q (x + (t : Int)) + 1 + (d : Int) = x := by omega
    rwa [e1] at this
  · -- back to the throw
    have key : ∀ (n : Nat) (x : Int) (t : Nat), 15 ≤ t + n → Air p (f x) t → Air q x t := by
      intro n
      induction n with
      | zero => intro x t ht k; exact absurd k (air_high h (by omega))
      | succ n ih =>
        intro x t ht k
        have e0 : x - 1 + 1 = x := by omega
        have k2 := (hf.2 (x - 1) t).2 (by rw [e0]; exact k)
        unfold Air at k2
        by_cases e : lf p (f (x - 1) + 1 + (t : Int)) = f (x - 1)
        · have e1 := lf_at h (f (x - 1) + 1 + (t : Int))
          rw [e] at e1
          have e2 := hf.1 (x - 1)
          have := lf_eq_of hok (b := x - 1) (c := x + (t : Int)) (by omega)
          unfold Air; omega
        · have k3 := ih (x - 1) (t + 1) (by omega) (by
            unfold Air
            have e2 : f (x - 1) + ((t + 1 : Nat) : Int) = f (x - 1) + 1 + (t : Int) := by omega
            rw [e2]; omega)
          unfold Air at k3 ⊢
          have e2 : x - 1 + ((t + 1 : Nat) : Int) = x + (t : Int) := by omega
          rw [e2] at k3
          omega
    exact key 15 x t (by omega)
theorem Fold.cnt (h : okP p = true) (hq : thOk q = true) (hf : Fold p q f) (x : Int) (H : Nat) : cnt q x H = cnt p (f x) H := by
  refine sumN_congr fun t _ => ?_
  have := hf.air h hq x t
  unfold Air at this
  by_cases k : lf q (x + (t : Int)) < x
  · rw [if_pos k, if_pos (this.1 k)]
  · rw [if_neg k, if_neg (fun e => k (this.2 e))]
end
/-- A whole period on, all is as it was. -/
theorem lf_per {p : List Int} (h : okP p = true) (c : Int) : lf p (c + (p.length : Int)) = lf p c + (p.length : Int) := by
  have e := lf_at h c
  have hp := atB_per p (lf p c) 1
  rw [Int.one_mul] at hp
  exact lf_eq_of h (by omega)
theorem air_per {p : List Int} (h : okP p = true) (b : Int) (t : Nat) : Air p (b + (p.length : Int)) t ↔ Air p b t := by
  unfold Air
  have e : b + (p.length : Int) + (t : Int) = (b + (t : Int)) + (p.length : Int) := by omega
  rw [e, lf_per h]; omega
theorem lf_per_mul {p : List Int} (h : okP p = true) (c : Int) : ∀ r : Nat, lf p (c + (r : Int) * (p.length : Int)) = lf p c + (r : Int) * (p.length : Int) := by
  intro r
  induction r with
  | zero => simp
  | succ r ih =>
    have e : c + ((r + 1 : Nat) : Int) * (p.length : Int) = (c + (r : Int) * (p.length : Int)) + (p.length : Int) := by
      rw [Int.natCast_succ, Int.add_mul, Int.one_mul]; omega
    rw [e, lf_per h, ih]
    rw [Int.natCast_succ, Int.add_mul, Int.one_mul]; omega
end Go.Proofs.Ytlbhfjbbkkkldaa
