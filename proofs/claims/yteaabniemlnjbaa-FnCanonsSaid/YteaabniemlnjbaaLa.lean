/- Contracts of the laws' own helpers: a2At, a2Long, a2Same; ComparePatterns. -/
import Derived.Test.YteaabniemlnjbaaProg
import Derived.Test.YteaabniemlnjbaaKit
import Derived.Deep.QuietTactic
import Derived.BigQuiet
namespace Go.Proofs.Yteaabniemlnjbaa
open Go.RowKit
set_option linter.unusedVariables false

/-- A number that depends on some bytes: all that is asked is its range. -/
theorem a2At_any (A : Option Addr) (len cap : Nat) (xs : List Int) (i k : Int) (w W : World) (hw : ∀ p : Addr, p.block < W.heap.size → w.cell? p = W.cell? p) (hc : Came .u8 W A len cap xs) (hl : len ≤ 1099511627776) (hi : 0 ≤ i) (hk : 1 ≤ k) :
    Calls Try.prog 39 #[.slice A len cap, .int .i64 i, .int .i64 k] w fun e w' => (∃ x, 0 ≤ x ∧ x < k ∧ e = .returned (.int .i64 x)) ∧ w = w' := by
  by_cases h : i < (len : Int)
  · obtain ⟨j, rfl⟩ := Int.eq_ofNat_of_zero_le hi
    obtain ⟨h1, h2, h3, h4, h5⟩ := hc
    obtain ⟨b, off, rfl, hb, hcell⟩ := h5 (by omega)
    have hj : j < xs.length := by omega
    obtain ⟨x, hx⟩ : ∃ x, xs[j]? = some x := ⟨_, List.getElem?_eq_getElem hj⟩
    have hw8 := h4 x (List.mem_of_getElem? hx)
    have hx0 : 0 ≤ x ∧ x ≤ 255 := by simp [Lit.wf, IntKind.min, IntKind.max, IntKind.bits, IntKind.signed] at hw8; omega
    obtain ⟨x0, x1⟩ := hx0
    have hcc : w.cell? ⟨b, off + j, none⟩ = some (.int .u8 x) := (hw _ hb).trans (hcell j x hx)
    have hm0 : 0 ≤ x % k := Int.emod_nonneg _ (by omega)
    have hm1 : x % k < k := Int.emod_lt_of_pos _ (by omega)
    clear hcell hx hw hw8 h4 h5
    go_enter Try.func39, Try.ntmps39
    go_wp2
    go_ret
    exact ⟨⟨_, hm0, hm1, rfl⟩, rfl⟩
  · go_enter Try.func39, Try.ntmps39
    go_wp2
    go_ret
    exact ⟨⟨0, by omega, by omega, rfl⟩, rfl⟩
theorem a2Long_any (A A' : Option Addr) (n c n' c' : Nat) (w : World) (hn : n ≤ 9223372036854775807) (hn' : n' ≤ 9223372036854775807) :
    Calls Try.prog 37 #[.slice A n c, .slice A' n' c'] w fun e w' => e = .returned (.bool (decide (3000 < n) || decide (3000 < n'))) ∧ w = w' := by
  by_cases h : 3000 < n
  · go_enter Try.func37, Try.ntmps37
    go_wp2
    go_ret
    exact ⟨ret_bool (by first | (simp; done) | (rw [Bool.eq_iff_iff]; simp; omega)), rfl⟩
  · go_enter Try.func37, Try.ntmps37
    go_wp2
    go_ret
    exact ⟨ret_bool (by first | (simp; done) | (rw [Bool.eq_iff_iff]; simp; omega)), rfl⟩
theorem a2Same_any (A A' : Option Addr) (n n' c c' : Nat) (xs ys : List Int) (w : World) (hn : n ≤ 1099511627776) (hn' : n' ≤ 1099511627776) (h : Rd w w.heap.size 1 A n (ints xs)) (h' : Rd w w.heap.size 1 A' n' (ints ys)) :
    Calls Try.prog 42 #[.slice A n c, .slice A' n' c'] w fun e w' => e = .returned (.bool (decide (xs = ys))) ∧ Below w.heap.size w w' := by
  have hl := h.len
  have hl' := h'.len
  by_cases hnn : n = n'
  · subst hnn
    have hst : Hid (decide (xs.drop 0 = ys.drop 0) = decide (xs = ys)) := rfl
    go_enter Try.func42, Try.ntmps42
    go_wp2
    go_loopw [5] (fun i wr => ∃ k : Nat, k ≤ n ∧ i = .int .i64 k ∧ Hid (decide (xs.drop k = ys.drop k) = decide (xs = ys)) ∧ Below w.heap.size w wr) (fun i _ => n - (intOf i).toNat)
    case atStart => exact ⟨0, Nat.zero_le _, rfl, hst, Below.refl _ _⟩
    case round =>
    obtain ⟨k, hk, rfl, he, hb0⟩ := hrel
    by_cases hlt : k < n
    · obtain ⟨b, off, x, rfl, hb, hx, hd, hc⟩ := (h.below hb0 (Nat.le_refl _)).at_ hlt
      obtain ⟨b', off', x', rfl, hb', hx', hd', hc'⟩ := (h'.below hb0 (Nat.le_refl _)).at_ hlt
      by_cases hxx : x = x'
      · have hq : (x != x') = false := by simp [hxx]
        have HZ : Hid (decide (xs.drop (k + 1) = ys.drop (k + 1)) = decide (xs = ys)) := by
          show _ = _
          rw [← he.out, hd, hd', hxx]; simp
        clear hx hx' hd hd' he hst h h' hb hb' hl hl' hxx
        go_wp2
        go_quiet (fail)
        go_wp2
        go_roundw
        case rel => exact ⟨k + 1, by omega, by go_num, HZ, (by repeat' (first | exact Below.refl _ _ | (with_reducible assumption) | (with_reducible refine Below.alloc ?_ ?_ _) | (with_reducible refine Below.setCell ?_ ?_ _) | (with_reducible refine Below.drew ?_) | (with_reducible refine below_drewN ?_ _) | (refine Below.trans ?_ (Below.mono (by assumption) ?_)) | (with_reducible exact Nat.le_refl _) | (with_reducible assumption) | (exact Below.size (by assumption)) | omega | go_size | (simp at *; omega)))⟩
        case measure => simp [intOf]; omega
      · have hq : (x != x') = true := by simpa using hxx
        have HZ : Hid (decide (xs = ys) = false) := by
          show _ = _
          rw [← he.out, hd, hd']; simp [hxx]
        clear hx hx' hd hd' he hst h h' hb hb' hl hl' hxx
        go_wp2
        go_quiet (fail)
        go_wp2
        go_ret
        exact ⟨ret_bool HZ.out.symm, (by repeat' (first | exact Below.refl _ _ | (with_reducible assumption) | (with_reducible refine Below.alloc ?_ ?_ _) | (with_reducible refine Below.setCell ?_ ?_ _) | (with_reducible refine Below.drew ?_) | (with_reducible refine below_drewN ?_ _) | (refine Below.trans ?_ (Below.mono (by assumption) ?_)) | (with_reducible exact Nat.le_refl _) | (with_reducible assumption) | (exact Below.size (by assumption)) | omega | go_size | (simp at *; omega)))⟩
    · have HZ : Hid (decide (xs = ys) = true) := by
        show _ = _
        rw [← he.out, List.drop_eq_nil_of_le (by omega), List.drop_eq_nil_of_le (by omega)]; rfl
      clear he hst hl hl' h h'
      go_wp2
      go_ret
      exact ⟨ret_bool HZ.out.symm, (by repeat' (first | exact Below.refl _ _ | (with_reducible assumption) | (with_reducible refine Below.alloc ?_ ?_ _) | (with_reducible refine Below.setCell ?_ ?_ _) | (with_reducible refine Below.drew ?_) | (with_reducible refine below_drewN ?_ _) | (refine Below.trans ?_ (Below.mono (by assumption) ?_)) | (with_reducible exact Nat.le_refl _) | (with_reducible assumption) | (exact Below.size (by assumption)) | omega | go_size | (simp at *; omega)))⟩
  · have HZ : Hid (decide (xs = ys) = false) := by
      show _ = _
      refine decide_eq_false fun e => hnn ?_
      rw [← hl, ← hl', e]
    clear hl hl' h h'
    go_enter Try.func42, Try.ntmps42
    go_wp2
    go_ret
    exact ⟨ret_bool HZ.out.symm, (by repeat' (first | exact Below.refl _ _ | (with_reducible assumption) | (with_reducible refine Below.alloc ?_ ?_ _) | (with_reducible refine Below.setCell ?_ ?_ _) | (with_reducible refine Below.drew ?_) | (with_reducible refine below_drewN ?_ _) | (refine Below.trans ?_ (Below.mono (by assumption) ?_)) | (with_reducible exact Nat.le_refl _) | (with_reducible assumption) | (exact Below.size (by assumption)) | omega | go_size | (simp at *; omega)))⟩

def cmpL : List Int → List Int → Int
  | x :: xs, y :: ys => if x < y then -1 else if y < x then 1 else cmpL xs ys
  | _, _ => 0
/-- How two lists compare. -/
def rCmp (a b : List Int) : Int := if a.length < b.length then -1 else if b.length < a.length then 1 else cmpL a b
theorem cmpL_bd : ∀ a b, -1 ≤ cmpL a b ∧ cmpL a b ≤ 1 := by
  intro a
  induction a with
  | nil => intro b; simp [cmpL]
  | cons x xs ih =>
    intro b
    cases b with
    | nil => simp [cmpL]
    | cons y ys =>
      simp only [cmpL]
      split
      · omega
      · split
        · omega
        · exact ih ys
theorem cmpL_neg : ∀ a b, cmpL b a = - cmpL a b := by
  intro a
  induction a with
  | nil => intro b; cases b <;> simp [cmpL]
  | cons x xs ih =>
    intro b
    cases b with
    | nil => simp [cmpL]
    | cons y ys =>
      simp only [cmpL]
      by_cases h1 : x < y
      · have h2 : ¬ y < x := by omega
        simp [h1, h2]
      · by_cases h2 : y < x
        · simp [h1, h2]
        · simp only [h1, h2, if_false]; exact ih ys
theorem cmpL_zero : ∀ a b, a.length = b.length → (cmpL a b = 0 ↔ a = b) := by
  intro a
  induction a with
  | nil => intro b h; have : b = [] := List.eq_nil_of_length_eq_zero (by simpa using h.symm); subst this; simp [cmpL]
  | cons x xs ih =>
    intro b h
    cases b with
    | nil => simp at h
    | cons y ys =>
      simp only [List.length_cons] at h
      simp only [cmpL]
      by_cases h1 : x < y
      · rw [if_pos h1]; simp; omega
      · by_cases h2 : y < x
        · rw [if_neg h1, if_pos h2]; simp; omega
        · rw [if_neg h1, if_neg h2, ih ys (by omega)]
          have : x = y := by omega
          simp [this]
theorem rCmp_bd (a b : List Int) : -1 ≤ rCmp a b ∧ rCmp a b ≤ 1 := by
  unfold rCmp
  split
  · omega
  · split
    · omega
    · exact cmpL_bd a b
theorem rCmp_neg (a b : List Int) : rCmp b a = - rCmp a b := by
  unfold rCmp
  by_cases h1 : a.length < b.length
  · have h2 : ¬ b.length < a.length := by omega
    simp [h1, h2]
  · by_cases h2 : b.length < a.length
    · simp [h1, h2]
    · simp only [h1, h2, if_false]; exact cmpL_neg a b
theorem rCmp_zero (a b : List Int) : rCmp a b = 0 ↔ a = b := by
  unfold rCmp
  by_cases h1 : a.length < b.length
  · rw [if_pos h1]
    constructor
    · intro h; omega
    · intro h; subst h; omega
  · by_cases h2 : b.length < a.length
    · rw [if_neg h1, if_pos h2]
      constructor
      · intro h; omega
      · intro h; subst h; omega
    · rw [if_neg h1, if_neg h2]; exact cmpL_zero a b (by omega)
theorem rCmp_self (a : List Int) : rCmp a a = 0 := (rCmp_zero a a).2 rfl
theorem ComparePatterns_any (A A' : Option Addr) (n n' c c' : Nat) (xs ys : List Int) (w : World) (hn : n ≤ 1099511627776) (hn' : n' ≤ 1099511627776) (h : Rd w w.heap.size 1 A n (ints xs)) (h' : Rd w w.heap.size 1 A' n' (ints ys)) :
    Calls Try.prog 142 #[.slice A n c, .slice A' n' c'] w fun e w' => e = .returned (.int .i64 (rCmp xs ys)) ∧ Below w.heap.size w w' := by
  have hl := h.len
  have hl' := h'.len
  rcases Nat.lt_trichotomy n n' with hnn | rfl | hnn
  · have HZ : Hid (rCmp xs ys = -1) := by show _ = _; rw [rCmp, if_pos (by omega)]
    clear hl hl' h h'
    go_enter Try.func142, Try.ntmps142
    go_wp2
    go_ret
    exact ⟨ret_int HZ.out.symm, (by repeat' (first | exact Below.refl _ _ | (with_reducible assumption) | (with_reducible refine Below.alloc ?_ ?_ _) | (with_reducible refine Below.setCell ?_ ?_ _) | (with_reducible refine Below.drew ?_) | (with_reducible refine below_drewN ?_ _) | (refine Below.trans ?_ (Below.mono (by assumption) ?_)) | (with_reducible exact Nat.le_refl _) | (with_reducible assumption) | (exact Below.size (by assumption)) | omega | go_size | (simp at *; omega)))⟩
  · have hst : Hid (cmpL (xs.drop 0) (ys.drop 0) = rCmp xs ys) := by show _ = _; rw [rCmp, if_neg (by omega), if_neg (by omega)]; rfl
    generalize rCmp xs ys = R at *
    go_enter Try.func142, Try.ntmps142
    go_wp2
    go_loopw [20] (fun i wr => ∃ k : Nat, k ≤ n ∧ i = .int .i64 k ∧ Hid (cmpL (xs.drop k) (ys.drop k) = R) ∧ Below w.heap.size w wr) (fun i _ => n - (intOf i).toNat)
    case atStart => exact ⟨0, Nat.zero_le _, rfl, hst, Below.refl _ _⟩
    case round =>
    obtain ⟨k, hk, rfl, he, hb0⟩ := hrel
    by_cases hlt : k < n
    · obtain ⟨b, off, x, rfl, hb, hx, hd, hc⟩ := (h.below hb0 (Nat.le_refl _)).at_ hlt
      obtain ⟨b', off', x', rfl, hb', hx', hd', hc'⟩ := (h'.below hb0 (Nat.le_refl _)).at_ hlt
      have he := he.out
      rw [hd, hd', cmpL] at he
      by_cases h1 : x < x'
      · rw [if_pos h1] at he
        have HZ := hid he
        clear hx hx' hd hd' he hst h h' hb hb' hl hl'
        go_wp2
        go_quiet (fail)
        go_wp2
        go_ret
        exact ⟨ret_int HZ.out, (by repeat' (first | exact Below.refl _ _ | (with_reducible assumption) | (with_reducible refine Below.alloc ?_ ?_ _) | (with_reducible refine Below.setCell ?_ ?_ _) | (with_reducible refine Below.drew ?_) | (with_reducible refine below_drewN ?_ _) | (refine Below.trans ?_ (Below.mono (by assumption) ?_)) | (with_reducible exact Nat.le_refl _) | (with_reducible assumption) | (exact Below.size (by assumption)) | omega | go_size | (simp at *; omega)))⟩
      · rw [if_neg h1] at he
        by_cases h2 : x' < x
        · rw [if_pos h2] at he
          have HZ := hid he
          clear hx hx' hd hd' he hst h h' hb hb' hl hl'
          go_wp2
          go_quiet (fail)
          go_wp2
          go_quiet (fail)
          go_wp2
          go_ret
          exact ⟨ret_int HZ.out, (by repeat' (first | exact Below.refl _ _ | (with_reducible assumption) | (with_reducible refine Below.alloc ?_ ?_ _) | (with_reducible refine Below.setCell ?_ ?_ _) | (with_reducible refine Below.drew ?_) | (with_reducible refine below_drewN ?_ _) | (refine Below.trans ?_ (Below.mono (by assumption) ?_)) | (with_reducible exact Nat.le_refl _) | (with_reducible assumption) | (exact Below.size (by assumption)) | omega | go_size | (simp at *; omega)))⟩
        · rw [if_neg h2] at he
          have HZ := hid he
          clear hx hx' hd hd' he hst h h' hb hb' hl hl'
          go_wp2
          go_quiet (fail)
          go_wp2
          go_quiet (fail)
          go_wp2
          go_roundw
          case rel => exact ⟨k + 1, by omega, by go_num, HZ, (by repeat' (first | exact Below.refl _ _ | (with_reducible assumption) | (with_reducible refine Below.alloc ?_ ?_ _) | (with_reducible refine Below.setCell ?_ ?_ _) | (with_reducible refine Below.drew ?_) | (with_reducible refine below_drewN ?_ _) | (refine Below.trans ?_ (Below.mono (by assumption) ?_)) | (with_reducible exact Nat.le_refl _) | (with_reducible assumption) | (exact Below.size (by assumption)) | omega | go_size | (simp at *; omega)))⟩
          case measure => simp [intOf]; omega
    · have HZ : Hid (R = 0) := by
        show _ = _
        rw [← he.out, List.drop_eq_nil_of_le (by omega)]; simp [cmpL]
      clear he hst hl hl' h h'
      go_wp2
      go_ret
      exact ⟨ret_int HZ.out.symm, (by repeat' (first | exact Below.refl _ _ | (with_reducible assumption) | (with_reducible refine Below.alloc ?_ ?_ _) | (with_reducible refine Below.setCell ?_ ?_ _) | (with_reducible refine Below.drew ?_) | (with_reducible refine below_drewN ?_ _) | (refine Below.trans ?_ (Below.mono (by assumption) ?_)) | (with_reducible exact Nat.le_refl _) | (with_reducible assumption) | (exact Below.size (by assumption)) | omega | go_size | (simp at *; omega)))⟩
  · have HZ : Hid (rCmp xs ys = 1) := by show _ = _; rw [rCmp, if_neg (by omega), if_pos (by omega)]
    clear hl hl' h h'
    go_enter Try.func142, Try.ntmps142
    go_wp2
    go_ret
    exact ⟨ret_int HZ.out.symm, (by repeat' (first | exact Below.refl _ _ | (with_reducible assumption) | (with_reducible refine Below.alloc ?_ ?_ _) | (with_reducible refine Below.setCell ?_ ?_ _) | (with_reducible refine Below.drew ?_) | (with_reducible refine below_drewN ?_ _) | (refine Below.trans ?_ (Below.mono (by assumption) ?_)) | (with_reducible exact Nat.le_refl _) | (with_reducible assumption) | (exact Below.size (by assumption)) | omega | go_size | (simp at *; omega)))⟩
end Go.Proofs.Yteaabniemlnjbaa
