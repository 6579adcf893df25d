/- Plain facts: synchronous patterns slide to patterns, and pairs lead back. Nothing of the program is named here. -/
import Derived.Test.YtjagejalchfhlaaYs
import Derived.Test.YtjagejalchfhlaaTn
import Derived.Test.YtjagejalchfhlaaCn
import Derived.Test.YtjagejalchfhlaaJt
import Derived.Test.YtjagejalchfhlaaPc
namespace Go.Proofs.Ytjagejalchfhlaa
open Go.RowKit
set_option linter.unusedVariables false

/-- The throw of a pattern for the throw with a number. -/
def slV (k : Nat) (t : Thr) : Int := if t.2 then (if k % 2 = 0 then t.1 + 1 else t.1 - 1) else t.1
def slP (p : List Beat) : List Int := (List.range (2 * p.length)).map fun k => slV k (nth p k)
def rSlide (p : List Beat) : List Int × Int := if syOk p then (slP p, 0) else ([], 1)
theorem slP_len (p : List Beat) : (slP p).length = 2 * p.length := by simp [slP]
theorem slP_at {p : List Beat} {k : Nat} (h : k < 2 * p.length) : (slP p)[k]? = some (slV k (nth p k)) := by
  rw [slP, List.getElem?_map, List.getElem?_range h]; rfl
theorem slP_getD {p : List Beat} {k : Nat} (h : k < 2 * p.length) : (slP p).getD k 0 = slV k (nth p k) := by
  rw [List.getD_eq_getElem?_getD, slP_at h]; rfl
theorem slP_step {p : List Beat} {k : Nat} (h : k < 2 * p.length) : (slP p).take (k + 1) = (slP p).take k ++ [slV k (nth p k)] := by
  rw [List.take_add_one, slP_at h]; rfl
theorem nth_ok {p : List Beat} (h : beatsOk p = true) (k : Nat) : thrOk (nth p k) = true := by
  have h1 := (beatsOk_iff.1 h).1
  have h2 : ∀ j, thrOk (p.getD j b0).1 = true ∧ thrOk (p.getD j b0).2 = true := by
    intro j
    rw [List.getD_eq_getElem?_getD]
    cases hx : p[j]? with
    | none => exact ⟨by decide, by decide⟩
    | some x => exact h1 x (List.mem_of_getElem? hx)
  unfold nth
  split
  · exact (h2 _).1
  · exact (h2 _).2
theorem slV_hnd (p : List Beat) (k : Nat) : slV k (nth p k) + ((k % 2 : Nat) : Int) = (nth p k).1 + (hnd p k : Nat) := by
  unfold slV hnd
  have h2 : k % 2 = 0 ∨ k % 2 = 1 := by omega
  cases hc : (nth p k).2
  · simp
  · rcases h2 with h2 | h2 <;> rw [h2] <;> simp
theorem slV_bd {p : List Beat} (h : beatsOk p = true) (k : Nat) : 0 ≤ slV k (nth p k) ∧ slV k (nth p k) ≤ 15 := by
  obtain ⟨h1, h2, h3⟩ := thrOk_iff.1 (nth_ok h k)
  unfold slV
  cases hc : (nth p k).2
  · simp; omega
  · rw [hc] at h3
    simp at h3
    simp only [if_true]
    split <;> omega
theorem mod_two {m n h : Int} (hn : 1 ≤ n) (h0 : 0 ≤ h) (h1 : h ≤ 1) : (2 * m + h) % (2 * n) = m % n * 2 + h := by
  have e := Int.mul_ediv_add_emod m n
  have r0 := Int.emod_nonneg m (show n ≠ 0 by omega)
  have r1 := Int.emod_lt_of_pos m (show 0 < n by omega)
  have e2 : 2 * m + h = (m % n * 2 + h) + (2 * n) * (m / n) := by
    have : 2 * n * (m / n) = 2 * (n * (m / n)) := by rw [Int.mul_assoc]
    omega
  rw [e2, Int.add_mul_emod_self_left]
  exact Int.emod_eq_of_lt (by omega) (by omega)
theorem slP_Ld {p : List Beat} (h : beatsOk p = true) {k : Nat} (hk : k < 2 * p.length) : Ld (slP p) k = syL p k := by
  have hn := (beatsOk_iff.1 h).2.1
  obtain ⟨h1, h2, h3⟩ := thrOk_iff.1 (nth_ok h k)
  have hs := slV_hnd p k
  rw [Ld, slP_getD hk, slP_len, syL]
  have e : ((2 * p.length : Nat) : Int) = 2 * (p.length : Int) := by omega
  have e2 : (k : Int) + slV k (nth p k) = 2 * (((k / 2 : Nat) : Int) + (nth p k).1 / 2) + (hnd p k : Nat) := by omega
  rw [e, e2]
  exact mod_two (by omega) (by rcases hnd_01 p k with q | q <;> rw [q] <;> omega) (by rcases hnd_01 p k with q | q <;> rw [q] <;> omega)
/-- A synchronous pattern slides to a pattern. -/
theorem slP_ok {p : List Beat} (h : syOk p = true) : okP (slP p) = true := by
  have hb : beatsOk p = true := by unfold syOk at h; rw [Bool.and_eq_true] at h; exact h.1
  obtain ⟨_, hn1, hn2⟩ := beatsOk_iff.1 hb
  refine ok_mk (thOk_mk (fun x hx => ?_) (by rw [slP_len]; omega) (by rw [slP_len]; omega)) fun a b hab hbl => ?_
  · obtain ⟨k, _, rfl⟩ := List.mem_map.1 hx
    exact slV_bd hb k
  · rw [slP_len] at hbl
    rw [slP_Ld hb (by omega), slP_Ld hb hbl]
    exact syOk_ne h (by omega) hbl (by omega)
theorem ok_of_slP {p : List Beat} (hb : beatsOk p = true) (h : okP (slP p) = true) : syOk p = true := by
  refine syOk_mk hb fun a b hab hbl => ?_
  have := okP_ne h (a := a) (b := b) (by rw [slP_len]; omega) (by rw [slP_len]; omega) (by omega)
  rwa [slP_Ld hb (by omega), slP_Ld hb hbl] at this
theorem syL_lt {p : List Beat} (hn : 1 ≤ p.length) (k : Nat) : 0 ≤ syL p k ∧ syL p k < 2 * (p.length : Int) := by
  have r0 := Int.emod_nonneg (((k / 2 : Nat) : Int) + (nth p k).1 / 2) (show (p.length : Int) ≠ 0 by omega)
  have r1 := Int.emod_lt_of_pos (((k / 2 : Nat) : Int) + (nth p k).1 / 2) (show 0 < (p.length : Int) by omega)
  unfold syL
  rcases hnd_01 p k with q | q <;> rw [q] <;> omega
theorem nth_cons (b : Beat) (p : List Beat) (k : Nat) : nth (b :: p) (k + 2) = nth p k := by
  unfold nth
  have e1 : (k + 2) % 2 = k % 2 := by omega
  have e2 : (k + 2) / 2 = k / 2 + 1 := by omega
  rw [e1, e2]; rfl
theorem sumB_sumN : ∀ (p : List Beat), (∀ k, 0 ≤ (nth p k).1) → sumB p = (sumN (fun k => (nth p k).1.toNat) (2 * p.length) : Nat) := by
  intro p
  induction p with
  | nil => intro _; rfl
  | cons b p ih =>
    intro h
    have h2 : ∀ k, 0 ≤ (nth p k).1 := fun k => by have := h (k + 2); rwa [nth_cons] at this
    have a0 := h 0
    have a1 := h 1
    have e0 : nth (b :: p) 0 = b.1 := rfl
    have e1 : nth (b :: p) 1 = b.2 := rfl
    rw [e0] at a0
    rw [e1] at a1
    have el : 2 * (b :: p).length = (2 * p.length + 1) + 1 := by rw [List.length_cons]; omega
    rw [el, sumN_shift, sumN_shift, sumB, ih h2]
    have e2 : sumN (fun i => (nth (b :: p) (i + 1 + 1)).1.toNat) (2 * p.length) = sumN (fun k => (nth p k).1.toNat) (2 * p.length) := sumN_congr fun i _ => by rw [show i + 1 + 1 = i + 2 from rfl, nth_cons]
    rw [e2, e0, show nth (b :: p) (0 + 1) = b.2 from rfl]
    omega
theorem slP_sum {p : List Beat} (h : syOk p = true) : sumL (slP p) = sumB p := by
  have hb : beatsOk p = true := by unfold syOk at h; rw [Bool.and_eq_true] at h; exact h.1
  have hn := (beatsOk_iff.1 hb).2.1
  have hv : ∀ k, 0 ≤ (nth p k).1 := fun k => (thrOk_iff.1 (nth_ok hb k)).1.1
  rw [sumB_sumN p hv, sumL_sumN (slP p) (fun x hx => by
    obtain ⟨k, _, rfl⟩ := List.mem_map.1 hx
    exact (slV_bd hb k).1), slP_len]
  have h1 : sumN (fun k => pN (slP p) k + k % 2) (2 * p.length) = sumN (fun k => (nth p k).1.toNat + (syL p k).toNat % 2) (2 * p.length) := sumN_congr fun k hk => by
    have e1 : ((pN (slP p) k : Nat) : Int) = slV k (nth p k) := by
      rw [pN_mem (by rw [slP_len]; exact hk) (fun x hx => by
        obtain ⟨j, _, rfl⟩ := List.mem_map.1 hx
        exact (slV_bd hb j).1), slP_getD hk]
    have e2 := slV_hnd p k
    have e3 := syL_hand p k
    have e4 := syL_lt hn k
    have e5 := hv k
    omega
  rw [sumN_add, sumN_add] at h1
  have h2 : sumN (fun k => (syL p k).toNat % 2) (2 * p.length) = sumN (fun k => k % 2) (2 * p.length) := sumN_perm (fun k => (syL p k).toNat) (fun i hi => by have := syL_lt hn i; omega) (fun i j hi hj hij => by
    have a := syL_lt hn i
    have b := syL_lt hn j
    have := syOk_ne h hi hj hij
    omega) (fun m => m % 2)
  rw [h2] at h1
  omega
theorem slP_props {p : List Beat} (h : syOk p = true) : prN (slP p) = syPr p := by
  rw [prN, slP_sum h, slP_len, syPr]
  have : ((2 * p.length : Nat) : Int) = 2 * (p.length : Int) := by omega
  rw [this]

/-- The throw of a hand for a throw of a pattern. -/
def bkT (k : Nat) (v : Int) : Thr := if v % 2 = 1 then (v + (2 * ((k % 2 : Nat) : Int) - 1), true) else (v, false)
theorem bkT_slV {k : Nat} {t : Thr} (h : thrOk t = true) : bkT k (slV k t) = t := by
  obtain ⟨h1, h2, h3⟩ := thrOk_iff.1 h
  obtain ⟨v, c⟩ := t
  simp only at h1 h2
  have hk : k % 2 = 0 ∨ k % 2 = 1 := by omega
  cases c
  · show bkT k v = (v, false)
    unfold bkT
    rw [if_neg (by omega)]
  · show bkT k (if k % 2 = 0 then v + 1 else v - 1) = (v, true)
    rcases hk with hk | hk
    · rw [show (if k % 2 = 0 then v + 1 else v - 1) = v + 1 from if_pos hk, bkT, if_pos (by omega), hk]
      exact Prod.ext (by simp; omega) rfl
    · rw [show (if k % 2 = 0 then v + 1 else v - 1) = v - 1 from if_neg (by omega), bkT, if_pos (by omega), hk]
      exact Prod.ext (by simp) rfl
theorem slV_bkT {k : Nat} {v : Int} : slV k (bkT k v) = v := by
  have hk : k % 2 = 0 ∨ k % 2 = 1 := by omega
  unfold bkT
  by_cases hv : v % 2 = 1
  · rw [if_pos hv]
    unfold slV
    rcases hk with hk | hk <;> rw [hk] <;> simp <;> omega
  · rw [if_neg hv]; rfl
/-- The list for pairs: of even length. -/
def allP (q : List Int) : List Int := if q.length % 2 = 1 then q ++ q else q
/-- The throws, two by two. -/
def prP : List Int → List Beat
  | x :: y :: r => (bkT 0 x, bkT 1 y) :: prP r
  | _ => []
def rPair (q : List Int) : List Beat × Int := if okP q then (if 12 < (allP q).length then ([], 5) else if (prP (allP q)).all btOk then (prP (allP q), 0) else ([], 10)) else ([], 1)
theorem bkT_mod (k : Nat) (v : Int) : bkT k v = bkT (k % 2) v := by unfold bkT; rw [Nat.mod_mod]
theorem prP_len : ∀ (n : Nat) (a : List Int), a.length = 2 * n → (prP a).length = n := by
  intro n
  induction n with
  | zero => intro a h; obtain rfl : a = [] := List.eq_nil_of_length_eq_zero (by omega); rfl
  | succ n ih =>
    intro a h
    match a, h with
    | x :: y :: r, h => rw [prP, List.length_cons, ih r (by simp at h; omega)]
theorem prP_nth : ∀ (n : Nat) (a : List Int), a.length = 2 * n → ∀ k, k < 2 * n → nth (prP a) k = bkT k (a.getD k 0) := by
  intro n
  induction n with
  | zero => intro a h k hk; omega
  | succ n ih =>
    intro a h k hk
    match a, h with
    | x :: y :: r, h =>
      match k, hk with
      | 0, _ => rfl
      | 1, _ => rfl
      | k + 2, hk =>
        rw [prP, nth_cons, ih r (by simp at h; omega) k (by omega), bkT_mod (k + 2), bkT_mod k, show (k + 2) % 2 = k % 2 by omega]; rfl
theorem beat_ext : ∀ {p q : List Beat}, p.length = q.length → (∀ k, k < 2 * p.length → nth p k = nth q k) → p = q := by
  intro p
  induction p with
  | nil => intro q h _; cases q with
    | nil => rfl
    | cons b q => simp at h
  | cons b p ih =>
    intro q h hk
    cases q with
    | nil => simp at h
    | cons c q =>
      have h0 : b.1 = c.1 := hk 0 (by simp)
      have h1 : b.2 = c.2 := hk 1 (by simp; omega)
      have hp : p = q := ih (by simpa using h) fun k hk2 => by
        have := hk (k + 2) (by rw [List.length_cons]; omega)
        rwa [nth_cons, nth_cons] at this
      rw [hp]
      congr 1
      exact Prod.ext h0 h1
theorem slP_pr {a : List Int} {n : Nat} (h : a.length = 2 * n) : slP (prP a) = a := by
  have hl := prP_len n a h
  refine list_ext (by rw [slP_len, hl, h]) fun k hk => ?_
  rw [slP_len, hl] at hk
  rw [slP_getD (by rw [hl]; exact hk), prP_nth n a h k hk, slV_bkT]
theorem prP_sl {p : List Beat} (h : beatsOk p = true) : prP (slP p) = p := by
  refine beat_ext (prP_len p.length _ (slP_len p)) fun k hk => ?_
  rw [prP_len p.length _ (slP_len p)] at hk
  rw [prP_nth p.length _ (slP_len p) k hk, slP_getD hk, bkT_slV (nth_ok h k)]
/-- What slides is paired up again. -/
theorem rPair_sl {p : List Beat} (h : syOk p = true) : rPair (slP p) = (p, 0) := by
  have hb : beatsOk p = true := by unfold syOk at h; rw [Bool.and_eq_true] at h; exact h.1
  have h2 := (beatsOk_iff.1 hb).2.2
  have ha : allP (slP p) = slP p := by unfold allP; rw [if_neg (by rw [slP_len]; omega)]
  have hall : p.all btOk = true := by unfold beatsOk at hb; rw [Bool.and_eq_true] at hb; exact hb.1
  rw [rPair, if_pos (slP_ok h), ha, if_neg (by rw [slP_len]; omega), prP_sl hb, if_pos hall]
theorem allP_len (q : List Int) : ∃ n, (allP q).length = 2 * n := by
  unfold allP
  by_cases h : q.length % 2 = 1
  · rw [if_pos h, List.length_append]; exact ⟨q.length, by omega⟩
  · rw [if_neg h]; exact ⟨q.length / 2, by omega⟩
theorem allP_rep {q : List Int} (h : q.length % 2 = 1) : allP q = repP q 2 := by
  rw [allP, if_pos h]
  simp [repP]
theorem allP_ok {q : List Int} (h : okP q = true) (hl : (allP q).length ≤ 12) : okP (allP q) = true := by
  by_cases ho : q.length % 2 = 1
  · rw [allP_rep ho]
    rw [allP_rep ho, repP_len] at hl
    exact repP_ok h (by omega) hl
  · rw [allP, if_neg ho]; exact h
theorem allP_getD {q : List Int} {i : Nat} (h : i < (allP q).length) : (allP q).getD i 0 = q.getD (i % q.length) 0 := by
  by_cases ho : q.length % 2 = 1
  · rw [allP_rep ho]
    rw [allP_rep ho, repP_len] at h
    exact repP_getD 2 i h
  · rw [allP, if_neg ho] at h ⊢
    rw [Nat.mod_eq_of_lt h]
/-- What is paired up slides back. -/
theorem rPair_yes {q : List Int} (h : (rPair q).2 = 0) : okP q = true ∧ (rPair q).1 = prP (allP q) ∧ syOk (prP (allP q)) = true ∧ slP (prP (allP q)) = allP q ∧ (allP q).length = 2 * (prP (allP q)).length ∧ (allP q).length ≤ 12 := by
  unfold rPair at h ⊢
  cases h1 : okP q with
  | false => rw [h1] at h; cases h
  | true =>
    rw [h1] at h
    simp only [if_true] at h ⊢
    by_cases h2 : 12 < (allP q).length
    · rw [if_pos h2] at h; cases h
    · rw [if_neg h2] at h ⊢
      cases h3 : (prP (allP q)).all btOk with
      | false => rw [h3] at h; cases h
      | true =>
        obtain ⟨n, hn⟩ := allP_len q
        have hl := prP_len n _ hn
        have hsp := slP_pr hn
        have hok := allP_ok h1 (by omega)
        have hn1 := (thOk_iff (okP_th hok)).2.1
        have hb : beatsOk (prP (allP q)) = true := by
          unfold beatsOk
          rw [h3, Bool.true_and, betweenB_iff, hl]; omega
        exact ⟨by first | rfl | trivial, rfl, ok_of_slP hb (by rw [hsp]; exact hok), hsp, by rw [hl]; exact hn, by omega⟩
end Go.Proofs.Ytjagejalchfhlaa
