/- Plain facts: rotations, reversals, exchanged landings, raised and shifted throws, and duals of patterns. Nothing of the program is named here. -/
import Derived.Test.YtlbhfjbbkkkldaaCu
import Derived.Test.YtlbhfjbbkkkldaaPc
namespace Go.Proofs.Ytlbhfjbbkkkldaa
open Go.RowKit
set_option linter.unusedVariables false

/-- The list of a function that repeats. -/
def mkL (n : Nat) (f : Int → Int) : List Int := (List.range n).map fun (i : Nat) => f (i : Int)
theorem mkL_len (n : Nat) (f : Int → Int) : (mkL n f).length = n := by simp [mkL]
theorem mkL_at {n : Nat} {f : Int → Int} {i : Nat} (h : i < n) : (mkL n f)[i]? = some (f (i : Int)) := by
  simp [mkL, List.getElem?_map, List.getElem?_range h]
theorem mkL_getD {n : Nat} {f : Int → Int} {i : Nat} (h : i < n) : (mkL n f).getD i 0 = f (i : Int) := by
  rw [List.getD_eq_getElem?_getD, mkL_at h]; rfl
theorem mkL_step {n : Nat} {f : Int → Int} {k : Nat} (h : k < n) : (mkL n f).take (k + 1) = (mkL n f).take k ++ [f (k : Int)] := by
  have hl : k < (mkL n f).length := by rw [mkL_len]; exact h
  have e := mkL_at (f := f) h
  rw [List.getElem?_eq_getElem hl] at e
  rw [List.take_succ_eq_append_getElem hl, Option.some.inj e]
theorem per_mul {f : Int → Int} {n : Int} (hf : ∀ x, f (x + n) = f x) : ∀ (r : Nat) (x : Int), f (x + (r : Int) * n) = f x := by
  intro r
  induction r with
  | zero => intro x; simp
  | succ r ih =>
    intro x
    have e : x + ((r + 1 : Nat) : Int) * n = (x + (r : Int) * n) + n := by
      rw [show ((r + 1 : Nat) : Int) = (r : Int) + 1 from rfl, Int.add_mul, Int.one_mul]; omega
    rw [e, hf, ih]
theorem per_mod {f : Int → Int} {n : Int} (hf : ∀ x, f (x + n) = f x) (x : Int) : f (x % n) = f x := by
  have h := Int.emod_add_mul_ediv x n
  rcases Int.le_total 0 (x / n) with k | k
  · obtain ⟨r, hr⟩ := Int.eq_ofNat_of_zero_le k
    have := per_mul hf r (x % n)
    rw [hr, Int.mul_comm] at h
    rw [h] at this
    exact this.symm
  · obtain ⟨r, hr⟩ := Int.eq_ofNat_of_zero_le (show 0 ≤ -(x / n) by omega)
    have := per_mul hf r x
    have e : x + (r : Int) * n = x % n := by
      have h2 : (r : Int) * n = -(n * (x / n)) := by rw [← hr, Int.neg_mul, Int.mul_comm]
      omega
    rw [e] at this
    exact this
theorem atB_mkL {n : Nat} {f : Int → Int} (hn : 1 ≤ n) (hf : ∀ x, f (x + (n : Int)) = f x) (x : Int) : atB (mkL n f) x = f x := by
  unfold atB
  rw [mkL_len]
  have h0 : 0 ≤ x % (n : Int) := Int.emod_nonneg _ (by omega)
  have h1 : x % (n : Int) < n := Int.emod_lt_of_pos _ (by omega)
  obtain ⟨j, hj⟩ := Int.eq_ofNat_of_zero_le h0
  rw [hj, Int.toNat_natCast, mkL_getD (by omega), ← hj, per_mod hf]
theorem list_ext {p q : List Int} (hl : p.length = q.length) (h : ∀ i, i < p.length → p.getD i 0 = q.getD i 0) : p = q := by
  apply List.ext_getElem hl
  intro i h1 h2
  have := h i h1
  rw [List.getD_eq_getElem?_getD, List.getD_eq_getElem?_getD, List.getElem?_eq_getElem h1, List.getElem?_eq_getElem h2] at this
  exact this
theorem atB_lt' {p : List Int} {b : Nat} (h : b < p.length) : atB p (b : Int) = p.getD b 0 := by
  unfold atB; rw [Int.emod_eq_of_lt (by omega) (by omega), Int.toNat_natCast]
theorem atB_ext {p q : List Int} (hl : p.length = q.length) (h : ∀ x, atB p x = atB q x) : p = q :=
  list_ext hl fun i hi => by rw [← atB_lt' hi, ← atB_lt' (by omega), h]
theorem mkL_th {n : Nat} {f : Int → Int} (h1 : 1 ≤ n) (h2 : n ≤ 12) (h : ∀ x, 0 ≤ f x ∧ f x ≤ 15) : thOk (mkL n f) = true :=
  thOk_mk (fun x hx => by
    simp only [mkL, List.mem_map] at hx
    obtain ⟨i, _, rfl⟩ := hx
    exact h _) (by rw [mkL_len]; exact h1) (by rw [mkL_len]; exact h2)
theorem ok_mk {q : List Int} (h : thOk q = true) (hinj : ∀ a b : Nat, a < b → b < q.length → Ld q a ≠ Ld q b) : okP q = true := by
  unfold okP
  rw [h, Bool.true_and]
  cases hc : colP q with
  | none => rfl
  | some x =>
    exfalso
    obtain ⟨a, b⟩ := x
    obtain ⟨g1, g2, g3, g4⟩ := col2_some (show col2 (Ld q) q.length 0 = some (a, b) from hc)
    exact hinj a b g1 (by omega) g4
theorem pN_mem {p : List Int} {i : Nat} (h : i < p.length) (hp : ∀ x ∈ p, 0 ≤ x) : ((pN p i : Nat) : Int) = p.getD i 0 := by
  unfold pN
  have : 0 ≤ p.getD i 0 := by
    rw [List.getD_eq_getElem?_getD, List.getElem?_eq_getElem h]
    exact hp _ (List.getElem_mem h)
  omega
theorem sumL_set : ∀ (p : List Int) (i : Nat) (x : Int), i < p.length → sumL (p.set i x) = sumL p - p.getD i 0 + x := by
  intro p
  induction p with
  | nil => intro i x h; simp at h
  | cons y ys ih =>
    intro i x h
    cases i with
    | zero => simp [sumL]; omega
    | succ i =>
      have := ih i x (by simpa using h)
      simp only [List.set_cons_succ, sumL, List.getD_cons_succ]
      rw [this]; omega
theorem getD_set' (L : List Int) (a : Nat) (x : Int) (j : Nat) : (L.set a x).getD j 0 = if a = j ∧ j < L.length then x else L.getD j 0 := by
  rw [List.getD_eq_getElem?_getD, List.getD_eq_getElem?_getD, List.getElem?_set]
  by_cases h1 : a = j
  · subst h1
    by_cases h2 : a < L.length
    · simp [h2]
    · simp [h2]
  · simp [h1]
theorem prN_of {p : List Int} {m : Int} (h : 1 ≤ p.length) (e : sumL p = m * (p.length : Int)) : prN p = m := by
  unfold prN; rw [e, Int.mul_ediv_cancel _ (by omega)]

/-- A pattern that begins at another beat. -/
def rotP (p : List Int) (by_ : Int) : List Int := mkL p.length fun x => atB p (x + by_)
theorem rotP_len (p : List Int) (k : Int) : (rotP p k).length = p.length := mkL_len _ _
theorem atB_add (p : List Int) (x : Int) : atB p (x + (p.length : Int)) = atB p x := by
  have := atB_per p x 1
  rwa [Int.one_mul] at this
theorem rotP_at {p : List Int} (h : 1 ≤ p.length) (k x : Int) : atB (rotP p k) x = atB p (x + k) :=
  atB_mkL h (f := fun x => atB p (x + k)) (fun x => by
    show atB p (x + (p.length : Int) + k) = atB p (x + k)
    rw [show x + (p.length : Int) + k = x + k + (p.length : Int) by omega, atB_add]) x
theorem rotP_th {p : List Int} (h : okP p = true) (k : Int) : thOk (rotP p k) = true := by
  obtain ⟨_, h1, h2⟩ := thOk_iff (okP_th h)
  exact mkL_th h1 h2 fun x => atB_bd h _
theorem rotP_fold {p : List Int} (h : okP p = true) (k : Int) : Fold p (rotP p k) (fun x => x + k) :=
  ⟨fun x => rotP_at (thOk_iff (okP_th h)).2.1 k x, fun x t => by
    show Air p (x + k + 1) t ↔ Air p (x + 1 + k) t
    rw [show x + k + 1 = x + 1 + k by omega]⟩
theorem rotP_ok {p : List Int} (h : okP p = true) (k : Int) : okP (rotP p k) = true := (rotP_fold h k).ok h (rotP_th h k)
theorem rotP_rot {p : List Int} (h : okP p = true) (j k : Int) : rotP (rotP p j) k = rotP p (j + k) := by
  have h1 := (thOk_iff (okP_th h)).2.1
  refine atB_ext (by simp [rotP_len]) fun x => ?_
  rw [rotP_at (by rw [rotP_len]; exact h1), rotP_at h1, rotP_at h1, show x + k + j = x + (j + k) by omega]
theorem rotP_zero {p : List Int} (h : okP p = true) : rotP p 0 = p := by
  refine atB_ext (rotP_len _ _) fun x => ?_
  rw [rotP_at (thOk_iff (okP_th h)).2.1, Int.add_zero]
theorem cnt_int {p : List Int} (h : okP p = true) {H : Nat} (hH : hiT p ≤ H) (b : Int) : cnt p b H = cnt p 0 H := by
  have hs := fun b => cnt_step h (H := H) (fun i => by have := pN_hi h i; omega) b
  have hn : ∀ k : Nat, ∀ b : Int, cnt p (b + (k : Int)) H = cnt p b H := by
    intro k
    induction k with
    | zero => intro b; simp
    | succ k ih =>
      intro b
      rw [show b + ((k + 1 : Nat) : Int) = (b + (k : Int)) + 1 by omega, hs, ih]
  rcases Int.le_total 0 b with k | k
  · obtain ⟨r, hr⟩ := Int.eq_ofNat_of_zero_le k
    have := hn r 0
    rw [Int.zero_add, ← hr] at this
    exact this
  · obtain ⟨r, hr⟩ := Int.eq_ofNat_of_zero_le (show 0 ≤ -b by omega)
    have := hn r b
    rw [show b + (r : Int) = 0 by omega] at this
    exact this.symm
theorem fold_props {p q : List Int} {f : Int → Int} (h : okP p = true) (hq : thOk q = true) (hf : Fold p q f) : prN q = prN p := by
  have hb := (hiT_bd (okP_th h)).2
  have hb2 := (hiT_bd hq).2
  rw [prN_cnt (hf.ok h hq) (H := 15) hb2, prN_cnt h (H := 15) hb, hf.cnt h hq, cnt_int h (H := 15) hb]
theorem rotP_props {p : List Int} (h : okP p = true) (k : Int) : prN (rotP p k) = prN p := fold_props h (rotP_th h k) (rotP_fold h k)
theorem rotP_sum {p : List Int} (h : okP p = true) (k : Int) : sumL (rotP p k) = sumL p := by
  rw [← prN_mul (rotP_ok h k), ← prN_mul h, rotP_props h, rotP_len]

/-- A pattern backwards in time. -/
def revP (p : List Int) : List Int := mkL p.length fun x => atB p (lf p ((p.length : Int) - 1 - x))
theorem revP_len (p : List Int) : (revP p).length = p.length := mkL_len _ _
theorem lf_sub {p : List Int} (h : okP p = true) (c : Int) : lf p (c - (p.length : Int)) = lf p c - (p.length : Int) := by
  have := lf_per h (c - (p.length : Int))
  rw [Int.sub_add_cancel] at this
  omega
theorem revP_at {p : List Int} (h : okP p = true) (x : Int) : atB (revP p) x = atB p (lf p ((p.length : Int) - 1 - x)) :=
  atB_mkL (thOk_iff (okP_th h)).2.1 (f := fun x => atB p (lf p ((p.length : Int) - 1 - x))) (fun x => by
    show atB p (lf p ((p.length : Int) - 1 - (x + (p.length : Int)))) = atB p (lf p ((p.length : Int) - 1 - x))
    rw [show (p.length : Int) - 1 - (x + (p.length : Int)) = ((p.length : Int) - 1 - x) - (p.length : Int) by omega, lf_sub h]
    have := atB_add p (lf p ((p.length : Int) - 1 - x) - (p.length : Int))
    rw [Int.sub_add_cancel] at this
    exact this.symm) x
theorem revP_th {p : List Int} (h : okP p = true) : thOk (revP p) = true := by
  obtain ⟨_, h1, h2⟩ := thOk_iff (okP_th h)
  exact mkL_th h1 h2 fun x => atB_bd h _
theorem revP_land {p : List Int} (h : okP p = true) (x : Int) : x + atB (revP p) x = (p.length : Int) - 1 - lf p ((p.length : Int) - 1 - x) := by
  rw [revP_at h]
  have := lf_at h ((p.length : Int) - 1 - x)
  omega
theorem revP_ok {p : List Int} (h : okP p = true) : okP (revP p) = true := by
  refine ok_of_inj (revP_th h) fun a b hab e => ?_
  rw [revP_land h, revP_land h] at e
  have e1 := lf_at h ((p.length : Int) - 1 - a)
  have e2 := lf_at h ((p.length : Int) - 1 - b)
  have : lf p ((p.length : Int) - 1 - a) = lf p ((p.length : Int) - 1 - b) := by omega
  rw [this] at e1
  omega
theorem revP_rev {p : List Int} (h : okP p = true) : revP (revP p) = p := by
  refine atB_ext (by rw [revP_len, revP_len]) fun x => ?_
  rw [revP_at (revP_ok h), revP_len]
  have e1 : lf p (x + atB p x) = x := lf_eq_of h rfl
  have e2 := revP_land h ((p.length : Int) - 1 - (x + atB p x))
  rw [show (p.length : Int) - 1 - ((p.length : Int) - 1 - (x + atB p x)) = x + atB p x by omega, e1] at e2
  have e3 : lf (revP p) ((p.length : Int) - 1 - x) = (p.length : Int) - 1 - (x + atB p x) := lf_eq_of (revP_ok h) e2.symm
  rw [e3]; omega
theorem revP_sum {p : List Int} (h : okP p = true) : sumL (revP p) = sumL p := by
  have hq := revP_ok h
  rw [sumL_sumN _ (fun x hx => ((thOk_iff (okP_th hq)).1 x hx).1), sumL_sumN _ (fun x hx => ((thOk_iff (okP_th h)).1 x hx).1), revP_len]
  have h1 : sumN (pN (revP p)) p.length = sumN (fun i => vth p (((p.length - 1 - i : Nat) : Int) + ((0 : Nat) : Int))) p.length := by
    refine sumN_congr fun i hi => ?_
    have e1 : ((pN (revP p) i : Nat) : Int) = atB (revP p) (i : Int) := by rw [pN_int hq, atB_lt' (by rw [revP_len]; exact hi)]
    have e2 := vth_int h ((p.length : Int) - 1 - (i : Int))
    have e3 := revP_land h (i : Int)
    have e4 : ((p.length - 1 - i : Nat) : Int) + ((0 : Nat) : Int) = (p.length : Int) - 1 - (i : Int) := by omega
    rw [e4]
    omega
  have h2 := sumN_perm (n := p.length) (fun i => p.length - 1 - i) (fun i hi => by omega) (fun i j hi hj hij => by omega) (fun i => vth p ((i : Int) + ((0 : Nat) : Int)))
  have h3 := sum_vth h 0 (fun x => x)
  rw [h1, h2, h3]

/-- Two landings exchanged. -/
def swapP (p : List Int) (i k : Nat) : List Int := (p.set i (p.getD k 0 + (k : Int) - (i : Int))).set k (p.getD i 0 + (i : Int) - (k : Int))
theorem swapP_len (p : List Int) (i k : Nat) : (swapP p i k).length = p.length := by simp [swapP]
theorem swapP_getD {p : List Int} {i k : Nat} (hi : i < p.length) (hk : k < p.length) (j : Nat) : (swapP p i k).getD j 0 = if j = k then p.getD i 0 + (i : Int) - (k : Int) else if j = i then p.getD k 0 + (k : Int) - (i : Int) else p.getD j 0 := by
  unfold swapP
  rw [getD_set', getD_set', List.length_set]
  by_cases h1 : j = k
  · subst h1; simp [hk]
  · rw [if_neg (fun e => h1 e.1.symm), if_neg h1]
    by_cases h2 : j = i
    · subst h2; simp [hi]
    · rw [if_neg (fun e => h2 e.1.symm), if_neg h2]
theorem swapP_self {p : List Int} {i : Nat} (hi : i < p.length) : swapP p i i = p :=
  list_ext (swapP_len _ _ _) fun j hj => by
    rw [swapP_getD hi hi]
    by_cases h : j = i
    · subst h; rw [if_pos rfl]; omega
    · rw [if_neg h, if_neg h]
theorem swapP_swap {p : List Int} {i k : Nat} (hi : i < p.length) (hk : k < p.length) : swapP (swapP p i k) i k = p := by
  by_cases h : i = k
  · subst h; rw [swapP_self hi, swapP_self hi]
  · refine list_ext (by rw [swapP_len, swapP_len]) fun j hj => ?_
    have e1 : (swapP p i k).getD i 0 = p.getD k 0 + (k : Int) - (i : Int) := by rw [swapP_getD hi hk, if_neg h, if_pos rfl]
    have e2 : (swapP p i k).getD k 0 = p.getD i 0 + (i : Int) - (k : Int) := by rw [swapP_getD hi hk, if_pos rfl]
    rw [swapP_getD (by rw [swapP_len]; exact hi) (by rw [swapP_len]; exact hk), e1, e2]
    by_cases h1 : j = k
    · subst h1; rw [if_pos rfl]; omega
    · rw [if_neg h1]
      by_cases h2 : j = i
      · subst h2; rw [if_pos rfl]; omega
      · rw [if_neg h2, swapP_getD hi hk, if_neg h1, if_neg h2]
def tr (i k j : Nat) : Nat := if j = k then i else if j = i then k else j
theorem swapP_Ld {p : List Int} {i k : Nat} (hi : i < p.length) (hk : k < p.length) (j : Nat) : Ld (swapP p i k) j = Ld p (tr i k j) := by
  unfold Ld tr
  rw [swapP_getD hi hk, swapP_len]
  by_cases h1 : j = k
  · subst h1; rw [if_pos rfl, if_pos rfl, show (j : Int) + (p.getD i 0 + (i : Int) - (j : Int)) = (i : Int) + p.getD i 0 by omega]
  · rw [if_neg h1, if_neg h1]
    by_cases h2 : j = i
    · subst h2; rw [if_pos rfl, if_pos rfl, show (j : Int) + (p.getD k 0 + (k : Int) - (j : Int)) = (k : Int) + p.getD k 0 by omega]
    · rw [if_neg h2, if_neg h2]
theorem swapP_ok {p : List Int} (h : okP p = true) {i k : Nat} (hi : i < p.length) (hk : k < p.length) (ht : thOk (swapP p i k) = true) : okP (swapP p i k) = true := by
  refine ok_mk ht fun a b hab hb => ?_
  rw [swapP_len] at hb
  rw [swapP_Ld hi hk, swapP_Ld hi hk]
  refine okP_ne h ?_ ?_ ?_
  · unfold tr; split
    · exact hi
    · split
      · exact hk
      · omega
  · unfold tr; split
    · exact hi
    · split
      · exact hk
      · omega
  · intro e
    unfold tr at e
    repeat' split at e
    all_goals omega
theorem swapP_sum {p : List Int} {i k : Nat} (hi : i < p.length) (hk : k < p.length) : sumL (swapP p i k) = sumL p := by
  unfold swapP
  rw [sumL_set _ _ _ (by rw [List.length_set]; exact hk), sumL_set _ _ _ hi, getD_set']
  by_cases h : i = k
  · subst h; rw [if_pos ⟨rfl, hi⟩]; omega
  · rw [if_neg (fun e => h e.1)]; omega

/-- A throw raised by a period. -/
def raiseP (p : List Int) (i : Nat) : List Int := p.set i (p.getD i 0 + (p.length : Int))
theorem raiseP_len (p : List Int) (i : Nat) : (raiseP p i).length = p.length := by simp [raiseP]
theorem raiseP_ok {p : List Int} (h : okP p = true) {i : Nat} (hi : i < p.length) (hl : p.getD i 0 + (p.length : Int) ≤ 15) : okP (raiseP p i) = true := by
  obtain ⟨h1, h2, h3⟩ := thOk_iff (okP_th h)
  have hLd : ∀ j, Ld (raiseP p i) j = Ld p j := fun j => by
    unfold Ld
    rw [raiseP_len]
    unfold raiseP
    rw [getD_set']
    by_cases hj : i = j ∧ j < p.length
    · obtain ⟨rfl, _⟩ := hj
      rw [if_pos ⟨rfl, hi⟩, ← Int.add_assoc, Int.add_emod_right]
    · rw [if_neg hj]
  refine ok_mk (thOk_mk (fun x hx => ?_) (by rw [raiseP_len]; exact h2) (by rw [raiseP_len]; exact h3)) fun a b hab hb => ?_
  · rcases List.mem_or_eq_of_mem_set hx with hx | rfl
    · exact h1 x hx
    · have := (getD_bd (okP_th h) i).1; omega
  · rw [raiseP_len] at hb
    rw [hLd, hLd]
    exact okP_ne h (by omega) hb (by omega)
theorem raiseP_props {p : List Int} (h : okP p = true) {i : Nat} (hi : i < p.length) : prN (raiseP p i) = prN p + 1 := by
  refine prN_of (by rw [raiseP_len]; omega) ?_
  rw [raiseP_len]
  unfold raiseP
  rw [sumL_set _ _ _ hi, Int.add_mul, prN_mul h]; omega
/-- All throws shifted. -/
def shiftP (p : List Int) (d : Int) : List Int := p.map (· + d)
theorem shiftP_len (p : List Int) (d : Int) : (shiftP p d).length = p.length := by simp [shiftP]
theorem sumL_map (d : Int) : ∀ p : List Int, sumL (p.map (· + d)) = sumL p + d * (p.length : Int) := by
  intro p
  induction p with
  | nil => simp [sumL]
  | cons x xs ih =>
    simp only [List.map_cons, sumL, ih, List.length_cons]
    rw [show ((xs.length + 1 : Nat) : Int) = (xs.length : Int) + 1 from rfl, Int.mul_add]; omega
theorem shiftP_ok {p : List Int} (h : okP p = true) {d : Int} (ht : thOk (shiftP p d) = true) : okP (shiftP p d) = true := by
  refine ok_mk ht fun a b hab hb => ?_
  rw [shiftP_len] at hb
  have hLd : ∀ j, j < p.length → Ld (shiftP p d) j = (Ld p j + d) % (p.length : Int) := fun j hj => by
    unfold Ld
    rw [shiftP_len]
    have e : (shiftP p d).getD j 0 = p.getD j 0 + d := by
      rw [List.getD_eq_getElem?_getD, List.getD_eq_getElem?_getD, shiftP, List.getElem?_map, List.getElem?_eq_getElem hj]; rfl
    rw [e, ← Int.add_assoc, Int.emod_add_emod]
  rw [hLd a (by omega), hLd b hb]
  intro e
  have hra := Ld_range (p := p) (j := a) (by omega)
  have hrb := Ld_range (p := p) (j := b) (by omega)
  have e2 : ((Ld p a + d) % (p.length : Int) + -d) % (p.length : Int) = ((Ld p b + d) % (p.length : Int) + -d) % (p.length : Int) := by rw [e]
  rw [Int.emod_add_emod, Int.emod_add_emod, show Ld p a + d + -d = Ld p a by omega, show Ld p b + d + -d = Ld p b by omega, Int.emod_eq_of_lt hra.1 hra.2, Int.emod_eq_of_lt hrb.1 hrb.2] at e2
  exact okP_ne h (by omega) hb (by omega) e2
theorem shiftP_props {p : List Int} (h : okP p = true) (d : Int) : prN (shiftP p d) = prN p + d := by
  refine prN_of (by rw [shiftP_len]; exact (thOk_iff (okP_th h)).2.1) ?_
  rw [shiftP_len, shiftP, sumL_map, Int.add_mul, prN_mul h]
/-- The gaps between props. -/
def dualP (p : List Int) (H : Int) : List Int := mkL p.length fun x => H - atB p ((p.length : Int) - 1 - x)
theorem dualP_len (p : List Int) (H : Int) : (dualP p H).length = p.length := mkL_len _ _
theorem dualP_at {p : List Int} (h : okP p = true) (H x : Int) : atB (dualP p H) x = H - atB p ((p.length : Int) - 1 - x) :=
  atB_mkL (thOk_iff (okP_th h)).2.1 (f := fun x => H - atB p ((p.length : Int) - 1 - x)) (fun x => by
    show H - atB p ((p.length : Int) - 1 - (x + (p.length : Int))) = H - atB p ((p.length : Int) - 1 - x)
    have := atB_add p ((p.length : Int) - 1 - (x + (p.length : Int)))
    rw [show (p.length : Int) - 1 - (x + (p.length : Int)) + (p.length : Int) = (p.length : Int) - 1 - x by omega] at this
    rw [this]) x
theorem atB_hi {p : List Int} (h : okP p = true) (x : Int) : atB p x ≤ hiT p := by
  have h1 := (thOk_iff (okP_th h)).2.1
  have h0 : 0 ≤ x % (p.length : Int) := Int.emod_nonneg _ (by omega)
  have h2 : x % (p.length : Int) < p.length := Int.emod_lt_of_pos _ (by omega)
  unfold atB
  have := pN_hi h (x % (p.length : Int)).toNat
  rwa [pN_int h] at this
theorem dualP_th {p : List Int} (h : okP p = true) {H : Int} (h1 : hiT p ≤ H) (h2 : H ≤ 15) : thOk (dualP p H) = true := by
  obtain ⟨_, h3, h4⟩ := thOk_iff (okP_th h)
  refine mkL_th h3 h4 fun x => ?_
  have a1 := atB_hi h ((p.length : Int) - 1 - x)
  have a2 := (atB_bd h ((p.length : Int) - 1 - x)).1
  omega
theorem dualP_ok {p : List Int} (h : okP p = true) {H : Int} (h1 : hiT p ≤ H) (h2 : H ≤ 15) : okP (dualP p H) = true := by
  refine ok_of_inj (dualP_th h h1 h2) fun a b hab e => ?_
  rw [dualP_at h, dualP_at h] at e
  have := inj_of_ok h (a := (p.length : Int) - 1 - a) (b := (p.length : Int) - 1 - b) (by omega)
  omega
theorem dualP_dual {p : List Int} (h : okP p = true) {H : Int} (h1 : hiT p ≤ H) (h2 : H ≤ 15) : dualP (dualP p H) H = p := by
  refine atB_ext (by rw [dualP_len, dualP_len]) fun x => ?_
  rw [dualP_at (dualP_ok h h1 h2), dualP_len, dualP_at h, show (p.length : Int) - 1 - ((p.length : Int) - 1 - x) = x by omega]; omega
theorem maxF_le' {H : Int} : ∀ (xs : List Int) (a : Int), a ≤ H → (∀ x ∈ xs, x ≤ H) → maxF a xs ≤ H := by
  intro xs
  induction xs with
  | nil => intro a ha _; exact ha
  | cons x xs ih =>
    intro a ha h
    have hx := h x List.mem_cons_self
    exact ih _ (by omega) fun y hy => h y (List.mem_cons_of_mem _ hy)
theorem dualP_hi {p : List Int} (h : okP p = true) {H : Int} (h1 : hiT p ≤ H) : hiT (dualP p H) ≤ H := by
  have h0 := (hiT_bd (okP_th h)).1
  refine maxF_le' _ _ (by omega) fun x hx => ?_
  simp only [dualP, mkL, List.mem_map] at hx
  obtain ⟨i, _, rfl⟩ := hx
  have := (atB_bd h ((p.length : Int) - 1 - (i : Int))).1
  omega
theorem sumL_mkL_sub (H : Int) (f : Int → Int) : ∀ n : Nat, sumL (mkL n fun x => H - f x) = H * (n : Int) - sumL (mkL n f) := by
  have hs : ∀ (xs : List Int) (y : Int), sumL (xs ++ [y]) = sumL xs + y := by
    intro xs
    induction xs with
    | nil => intro y; simp [sumL]
    | cons x xs ih => intro y; simp only [List.cons_append, sumL, ih]; omega
  intro n
  induction n with
  | zero => simp [mkL, sumL]
  | succ n ih =>
    have e : ∀ g : Int → Int, mkL (n + 1) g = mkL n g ++ [g (n : Int)] := fun g => by simp [mkL, List.range_succ]
    rw [e, e, hs, hs, ih, show ((n + 1 : Nat) : Int) = (n : Int) + 1 from rfl, Int.mul_add]; omega
theorem dualP_props {p : List Int} (h : okP p = true) {H : Int} (h1 : hiT p ≤ H) (h2 : H ≤ 15) : prN (dualP p H) = H - prN p := by
  have hl := (thOk_iff (okP_th h)).2.1
  refine prN_of (by rw [dualP_len]; exact hl) ?_
  rw [dualP_len, dualP, sumL_mkL_sub, Int.sub_mul, prN_mul h]
  have e : sumL (mkL p.length fun x => atB p ((p.length : Int) - 1 - x)) = sumL p := by
    have hm : ∀ x ∈ mkL p.length (fun x => atB p ((p.length : Int) - 1 - x)), 0 ≤ x := fun x hx => by
      simp only [mkL, List.mem_map] at hx
      obtain ⟨i, _, rfl⟩ := hx
      exact (atB_bd h _).1
    rw [sumL_sumN _ hm, sumL_sumN _ (fun x hx => ((thOk_iff (okP_th h)).1 x hx).1), mkL_len]
    have h3 := sumN_perm (n := p.length) (fun i => p.length - 1 - i) (fun i hi => by omega) (fun i j hi hj hij => by omega) (pN p)
    have h4 : sumN (pN (mkL p.length fun x => atB p ((p.length : Int) - 1 - x))) p.length = sumN (fun i => pN p (p.length - 1 - i)) p.length := by
      refine sumN_congr fun i hi => ?_
      unfold pN
      rw [mkL_getD hi, show (p.length : Int) - 1 - (i : Int) = ((p.length - 1 - i : Nat) : Int) by omega, atB_lt' (by omega)]
    rw [h4, h3]
  omega
end Go.Proofs.Ytlbhfjbbkkkldaa
