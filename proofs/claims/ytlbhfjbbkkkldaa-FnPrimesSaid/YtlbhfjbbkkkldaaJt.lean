/- Plain facts: as many props are in the air before every beat as the throws' sum by the period; nothing of the program is named here. -/
import Derived.Test.YtlbhfjbbkkkldaaO
namespace Go.Proofs.Ytlbhfjbbkkkldaa
open Go.RowKit
set_option linter.unusedVariables false

/-- A sum over the numbers below n. -/
def sumN (f : Nat → Nat) : Nat → Nat
  | 0 => 0
  | n + 1 => sumN f n + f n
theorem sumN_congr {f g : Nat → Nat} : ∀ {n : Nat}, (∀ i, i < n → f i = g i) → sumN f n = sumN g n := by
  intro n
  induction n with
  | zero => intro _; rfl
  | succ n ih => intro h; rw [sumN, sumN, ih fun i hi => h i (by omega), h n (by omega)]
theorem sumN_add (f g : Nat → Nat) : ∀ n, sumN (fun i => f i + g i) n = sumN f n + sumN g n := by
  intro n
  induction n with
  | zero => rfl
  | succ n ih => simp only [sumN, ih]; omega
theorem sumN_zero : ∀ n, sumN (fun _ => 0) n = 0 := by
  intro n
  induction n with
  | zero => rfl
  | succ n ih => simp only [sumN, ih]
theorem sumN_const (c : Nat) : ∀ n, sumN (fun _ => c) n = n * c := by
  intro n
  induction n with
  | zero => simp [sumN]
  | succ n ih => simp only [sumN, ih, Nat.add_mul, Nat.one_mul]
theorem sumN_comm (f : Nat → Nat → Nat) (m : Nat) : ∀ n, sumN (fun i => sumN (fun j => f i j) m) n = sumN (fun j => sumN (fun i => f i j) n) m := by
  intro n
  induction n with
  | zero => simp only [sumN, sumN_zero]
  | succ n ih => simp only [sumN, ih, sumN_add]
theorem sumN_one {k x : Nat} : ∀ {n : Nat}, k < n → sumN (fun i => if i = k then x else 0) n = x := by
  intro n
  induction n with
  | zero => intro h; omega
  | succ n ih =>
    intro h
    by_cases e : k = n
    · subst e
      have : sumN (fun i => if i = k then x else 0) k = 0 := by
        refine Eq.trans ?_ (sumN_zero k)
        exact sumN_congr fun i hi => if_neg (by omega)
      simp [sumN, this]
    · have : ¬ n = k := fun e2 => e e2.symm
      simp [sumN, ih (by omega), this]
theorem sumN_shift (f : Nat → Nat) : ∀ n, sumN f (n + 1) = f 0 + sumN (fun i => f (i + 1)) n := by
  intro n
  induction n with
  | zero => simp [sumN]
  | succ n ih => rw [sumN, ih, sumN]; omega
/-- A sum over a rearrangement of the numbers below n. -/
theorem sumN_perm {n : Nat} (s : Nat → Nat) (h : ∀ i, i < n → s i < n) (hinj : ∀ i j, i < n → j < n → i ≠ j → s i ≠ s j) (f : Nat → Nat) : sumN (fun i => f (s i)) n = sumN f n := by
  have h1 : sumN (fun i => f (s i)) n = sumN (fun i => sumN (fun r => if r = s i then f r else 0) n) n := by
    refine sumN_congr fun i hi => ?_
    have : sumN (fun r => if r = s i then f r else 0) n = sumN (fun r => if r = s i then f (s i) else 0) n := by
      refine sumN_congr fun r _ => ?_
      by_cases e : r = s i
      · rw [if_pos e, if_pos e, e]
      · rw [if_neg e, if_neg e]
    rw [this, sumN_one (h i hi)]
  rw [h1, sumN_comm]
  refine sumN_congr fun r hr => ?_
  obtain ⟨k, hk, e⟩ := onto n s h hinj r hr
  have : sumN (fun i => if r = s i then f r else 0) n = sumN (fun i => if i = k then f r else 0) n := by
    refine sumN_congr fun i hi => ?_
    by_cases e2 : i = k
    · rw [if_pos (by rw [e2, e]), if_pos e2]
    · rw [if_neg (fun e3 => hinj i k hi hk e2 (by rw [← e3, e])), if_neg e2]
  rw [this, sumN_one hk]

/-- How many props land at the beats b .. b + H - 1 that were thrown before b. -/
def cnt (p : List Int) (b : Int) (H : Nat) : Nat := sumN (fun t => if lf p (b + (t : Int)) < b then 1 else 0) H
/-- The throw that lands at a beat. -/
def vth (p : List Int) (c : Int) : Nat := (c - lf p c).toNat
theorem vth_int {p : List Int} (h : okP p = true) (c : Int) : ((vth p c : Nat) : Int) = c - lf p c := by have := lf_bd h c; unfold vth; omega
/-- The throw whose landing is the residue r. -/
theorem vth_idx {p : List Int} (h : okP p = true) {c : Int} {i : Nat} (hi : i < p.length) (e : Ld p i = c % (p.length : Int)) : (vth p c : Int) = p.getD i 0 := by
  obtain ⟨j, hj, hjl, hL⟩ := idx_some h c
  have : j = i := by
    apply Classical.byContradiction
    intro hne
    exact okP_ne h hjl hi hne (by rw [hL, e])
  subst this
  rw [vth_int h, lf_some hj]; omega
/-- The places of the landings. -/
def lnN (p : List Int) (i : Nat) : Nat := (Ld p i).toNat
theorem lnN_lt {p : List Int} (h : okP p = true) (i : Nat) : lnN p i < p.length := by
  have hl := (thOk_iff (okP_th h)).2.1
  have := Ld_range (p := p) (j := i) hl
  unfold lnN; omega
theorem lnN_inj {p : List Int} (h : okP p = true) {i j : Nat} (hi : i < p.length) (hj : j < p.length) (hij : i ≠ j) : lnN p i ≠ lnN p j := by
  have hl := (thOk_iff (okP_th h)).2.1
  have a := Ld_range (p := p) (j := i) hl
  have b := Ld_range (p := p) (j := j) hl
  have := okP_ne h hi hj hij
  unfold lnN; omega
def pN (p : List Int) (i : Nat) : Nat := (p.getD i 0).toNat
theorem pN_int {p : List Int} (h : okP p = true) (i : Nat) : ((pN p i : Nat) : Int) = p.getD i 0 := by have := getD_bd (okP_th h) i; unfold pN; omega
/-- Over a period the throws that land are the throws. -/
theorem sum_vth {p : List Int} (h : okP p = true) (c : Nat) (F : Nat → Nat) : sumN (fun b => F (vth p ((b : Int) + (c : Int)))) p.length = sumN (fun i => F (pN p i)) p.length := by
  have hl := (thOk_iff (okP_th h)).2.1
  -- by residues
  have h1 : sumN (fun b => F (vth p ((b : Int) + (c : Int)))) p.length = sumN (fun r => F (vth p (r : Int))) p.length := by
    have := sumN_perm (n := p.length) (fun b => (b + c) % p.length) (fun i hi => Nat.mod_lt _ (by omega)) (fun i j hi hj hij e => by
      have e : (i + c) % p.length = (j + c) % p.length := e
      have e1 := Nat.div_add_mod (i + c) p.length
      have e2 := Nat.div_add_mod (j + c) p.length
      rw [e] at e1
      rcases Nat.lt_trichotomy ((i + c) / p.length) ((j + c) / p.length) with k | k | k
      · have := Nat.mul_le_mul_left p.length (show (i + c) / p.length + 1 ≤ (j + c) / p.length from k)
        rw [Nat.mul_add, Nat.mul_one] at this; omega
      · rw [k] at e1; omega
      · have := Nat.mul_le_mul_left p.length (show (j + c) / p.length + 1 ≤ (i + c) / p.length from k)
        rw [Nat.mul_add, Nat.mul_one] at this; omega) (fun r => F (vth p (r : Int)))
    rw [← this]
    refine sumN_congr fun b hb => ?_
    congr 1
    obtain ⟨i, hi, e⟩ := okP_onto h (((b : Int) + (c : Int)) % (p.length : Int)) (Int.emod_nonneg _ (by omega)) (Int.emod_lt_of_pos _ (by omega))
    have v1 := vth_idx h hi e
    have e2 : Ld p i = (((b + c) % p.length : Nat) : Int) % (p.length : Int) := by
      rw [e, Int.natCast_emod, Int.natCast_add, Int.emod_emod_of_dvd _ (Int.dvd_refl _)]
    have v2 := vth_idx h hi e2
    omega
  rw [h1]
  have := sumN_perm (n := p.length) (lnN p) (fun i _ => lnN_lt h i) (fun i j hi hj hij => lnN_inj h hi hj hij) (fun r => F (vth p (r : Int)))
  rw [← this]
  refine sumN_congr fun i hi => ?_
  congr 1
  have a := Ld_range (p := p) (j := i) hl
  have e : Ld p i = ((lnN p i : Nat) : Int) % (p.length : Int) := by
    rw [Int.emod_eq_of_lt (by omega) (by have := lnN_lt h i; omega), lnN, Int.toNat_of_nonneg a.1]
  have v := vth_idx h hi e
  have q := pN_int h i
  omega
theorem cnt_vth {p : List Int} (h : okP p = true) (b : Int) (H : Nat) : cnt p b H = sumN (fun t => if t < vth p (b + (t : Int)) then 1 else 0) H := by
  refine sumN_congr fun t _ => ?_
  have := vth_int h (b + (t : Int))
  by_cases k : lf p (b + (t : Int)) < b
  · rw [if_pos k, if_pos (by omega)]
  · rw [if_neg k, if_neg (by omega)]
theorem sum_lt {x : Nat} : ∀ {H : Nat}, x ≤ H → sumN (fun t => if t < x then 1 else 0) H = x := by
  intro H
  induction H with
  | zero => intro h; simp [sumN]; omega
  | succ H ih =>
    intro h
    by_cases e : x = H + 1
    · subst e
      have : sumN (fun t => if t < H + 1 then 1 else 0) H = H := by
        have := sumN_const 1 H
        rw [Nat.mul_one] at this
        rw [← this]
        simp only [this]
        refine (sumN_congr fun i hi => ?_).trans this
        rw [if_pos (by omega)]
      simp [sumN, this]
    · simp [sumN, ih (by omega)]; omega
/-- The props of all the period's beats. -/
theorem sum_cnt {p : List Int} (h : okP p = true) {H : Nat} (hH : ∀ i, pN p i ≤ H) : sumN (fun b => cnt p (b : Int) H) p.length = sumN (pN p) p.length := by
  have h1 : sumN (fun b => cnt p (b : Int) H) p.length = sumN (fun b => sumN (fun t => if t < vth p ((b : Int) + (t : Int)) then 1 else 0) H) p.length := sumN_congr fun b _ => cnt_vth h _ _
  rw [h1, sumN_comm]
  have h2 : sumN (fun j => sumN (fun i => if j < vth p ((i : Int) + (j : Int)) then 1 else 0) p.length) H = sumN (fun j => sumN (fun i => if j < pN p i then 1 else 0) p.length) H := sumN_congr fun t _ => sum_vth h t (fun v => if t < v then 1 else 0)
  rw [h2, ← sumN_comm]
  exact sumN_congr fun i _ => sum_lt (hH i)
theorem lf_eq_of {p : List Int} (h : okP p = true) {b : Int} {c : Int} (hc : c = b + atB p b) : lf p c = b := by
  have hl := (thOk_iff (okP_th h)).2.1
  have h0 : 0 ≤ b % (p.length : Int) := Int.emod_nonneg _ (by omega)
  have h1 : b % (p.length : Int) < p.length := Int.emod_lt_of_pos _ (by omega)
  obtain ⟨i, hi⟩ := Int.eq_ofNat_of_zero_le h0
  have hil : i < p.length := by omega
  have ha : atB p b = p.getD i 0 := by rw [atB, hi, Int.toNat_natCast]
  have e : Ld p i = c % (p.length : Int) := by
    rw [Ld, hc, ha, ← hi, Int.emod_add_emod]
  have v := vth_idx h hil e
  have := vth_int h c
  omega
theorem atB_bd {p : List Int} (h : okP p = true) (b : Int) : 0 ≤ atB p b ∧ atB p b ≤ 15 := getD_bd (okP_th h) _
theorem lf_lt_iff {p : List Int} (h : okP p = true) (b : Int) : lf p b < b ↔ 0 < atB p b := by
  have hb := lf_bd h b
  have ha := atB_bd h b
  constructor
  · intro k
    apply Classical.byContradiction
    intro hn
    have e : atB p b = 0 := by omega
    have := lf_eq_of h (b := b) (c := b) (by omega)
    omega
  · intro k
    apply Classical.byContradiction
    intro hn
    have := lf_self h b (by omega)
    omega
theorem atB_le {p : List Int} {H : Nat} (hH : ∀ i, pN p i ≤ H) (b : Int) : atB p b ≤ H := by
  have := hH (b % (p.length : Int)).toNat
  unfold pN at this
  unfold atB; omega
/-- Before every beat the same number of props are in the air. -/
theorem cnt_step {p : List Int} (h : okP p = true) {H : Nat} (hH : ∀ i, pN p i ≤ H) (b : Int) : cnt p (b + 1) H = cnt p b H := by
  -- one place more holds nothing
  have h0 : cnt p b (H + 1) = cnt p b H := by
    have : ¬ lf p (b + (H : Int)) < b := by
      have e := lf_at h (b + (H : Int))
      have := atB_le hH (lf p (b + (H : Int)))
      omega
    show sumN _ (H + 1) = _
    rw [sumN, if_neg this]; rfl
  have h1 : cnt p b (H + 1) = (if lf p b < b then 1 else 0) + sumN (fun t => if lf p (b + 1 + (t : Int)) < b then 1 else 0) H := by
    show sumN _ (H + 1) = _
    rw [sumN_shift]
    congr 1
    · simp
    · refine sumN_congr fun t _ => ?_
      have e : b + ((t + 1 : Nat) : Int) = b + 1 + (t : Int) := by omega
      rw [e]
  have h2 : cnt p (b + 1) H = sumN (fun t => if lf p (b + 1 + (t : Int)) < b then 1 else 0) H + sumN (fun t => if lf p (b + 1 + (t : Int)) = b then 1 else 0) H := by
    rw [← sumN_add]
    refine sumN_congr fun t _ => ?_
    by_cases k : lf p (b + 1 + (t : Int)) < b
    · rw [if_pos (by omega), if_pos k, if_neg (by omega)]
    · by_cases k2 : lf p (b + 1 + (t : Int)) = b
      · rw [if_pos (by omega), if_neg k, if_pos k2]
      · rw [if_neg (by omega), if_neg k, if_neg k2]
  have h3 : sumN (fun t => if lf p (b + 1 + (t : Int)) = b then 1 else 0) H = if lf p b < b then 1 else 0 := by
    by_cases k : 0 < atB p b
    · have ha := atB_le hH b
      obtain ⟨t0, ht⟩ := Int.eq_ofNat_of_zero_le (show 0 ≤ atB p b - 1 by omega)
      rw [if_pos ((lf_lt_iff h b).2 k)]
      have : sumN (fun t => if lf p (b + 1 + (t : Int)) = b then 1 else 0) H = sumN (fun t => if t = t0 then 1 else 0) H := by
        refine sumN_congr fun t _ => ?_
        by_cases e : t = t0
        · rw [if_pos e, if_pos (lf_eq_of h (by omega))]
        · rw [if_neg e, if_neg (fun e2 => e (by
            have := lf_at h (b + 1 + (t : Int))
            rw [e2] at this
            omega))]
      rw [this, sumN_one (by omega)]
    · rw [if_neg (fun e => k ((lf_lt_iff h b).1 e))]
      refine Eq.trans ?_ (sumN_zero H)
      refine sumN_congr fun t _ => if_neg fun e2 => k ?_
      have := lf_at h (b + 1 + (t : Int))
      rw [e2] at this
      omega
  rw [← h0, h1, h2, h3]; omega
theorem cnt_all {p : List Int} (h : okP p = true) {H : Nat} (hH : ∀ i, pN p i ≤ H) : ∀ b : Nat, cnt p (b : Int) H = cnt p 0 H := by
  intro b
  induction b with
  | zero => rfl
  | succ b ih =>
    have := cnt_step h hH (b : Int)
    have e : ((b + 1 : Nat) : Int) = (b : Int) + 1 := by omega
    rw [e, this, ih]
/-- The sum of the throws is the period times the props. -/
theorem sum_props {p : List Int} (h : okP p = true) {H : Nat} (hH : ∀ i, pN p i ≤ H) : sumN (pN p) p.length = p.length * cnt p 0 H := by
  rw [← sum_cnt h hH, ← sumN_const]
  exact sumN_congr fun b _ => cnt_all h hH b
end Go.Proofs.Ytlbhfjbbkkkldaa
