/- Contracts of the functions that check orders of hands. -/
import Derived.Test.YtopakpgmmfkcnaaT
namespace Go.Proofs.Ytopakpgmmfkcnaa
open Go.RowKit
set_option linter.unusedVariables false

/-- The greatest of m and the numbers of a list. -/
def maxF : Int → List Int → Int
  | m, [] => m
  | m, x :: xs => maxF (max m x) xs
theorem maxF_bd : ∀ (xs : List Int) (m B : Int), m ≤ B → (∀ x ∈ xs, x ≤ B) → m ≤ maxF m xs ∧ maxF m xs ≤ B := by
  intro xs
  induction xs with
  | nil => intro m B h _; exact ⟨Int.le_refl _, h⟩
  | cons x xs ih =>
    intro m B h hx
    have h1 := hx x List.mem_cons_self
    have := ih (max m x) B (by omega) (fun y hy => hx y (List.mem_cons_of_mem _ hy))
    simp only [maxF]; omega
theorem maxF_ge : ∀ (xs : List Int) (m : Int), m ≤ maxF m xs := by
  intro xs
  induction xs with
  | nil => intro m; exact Int.le_refl _
  | cons x xs ih => intro m; have := ih (max m x); simp only [maxF]; omega
theorem maxF_mem : ∀ (xs : List Int) (m : Int) (x : Int), x ∈ xs → x ≤ maxF m xs := by
  intro xs
  induction xs with
  | nil => intro m x h; simp at h
  | cons y ys ih =>
    intro m x h
    simp only [maxF]
    rcases List.mem_cons.1 h with rfl | h
    · have := maxF_ge ys (max m x); omega
    · exact ih _ _ h
theorem max_if (m x : Int) : (if m < x then x else m) = max m x := by split <;> omega
def cntG : Int → List Int → Int
  | m, [] => m
  | m, x :: xs => cntG (max m (x + 1)) xs
theorem cntG_eq : ∀ (xs : List Int) (m : Int), cntG (m + 1) xs = maxF m xs + 1 := by
  intro xs
  induction xs with
  | nil => intro m; rfl
  | cons x xs ih =>
    intro m
    simp only [cntG, maxF]
    have : max (m + 1) (x + 1) = max m x + 1 := by omega
    rw [this, ih]
theorem cntG_zero : ∀ (xs : List Int), xs ≠ [] → (∀ x ∈ xs, 0 ≤ x) → cntG 0 xs = maxF 0 xs + 1 := by
  intro xs h h0
  cases xs with
  | nil => exact absurd rfl h
  | cons x xs =>
    simp only [cntG, maxF]
    have := h0 x List.mem_cons_self
    rw [← cntG_eq]
    congr 1; omega
/-- How many hands an order has. -/
def hdCnt (p : List Int) : Int := maxF 0 p + 1
/-- An order of hands. -/
def hdOk (p : List Int) : Bool := p.all (betweenB · 0 3) && betweenB p.length 1 12 && (List.range (hdCnt p).toNat).all fun h => decide ((h : Int) ∈ p)

theorem handCount_any (A : Option Addr) (n c : Nat) (p : List Int) (w : World) (hn : n ≤ 1099511627776) (hp : ∀ x ∈ p, 0 ≤ x ∧ x ≤ 3) (hr : Rd w w.heap.size 1 A n (ints p)) :
    Calls Try.prog 31 #[.slice A n c] w fun e w' => e = .returned (.int .i64 (hdCnt p)) ∧ w = w' := by
  have hlen := hr.len
  have hst : Hid (maxF 0 (p.drop 0) = maxF 0 p) := rfl
  have hdc : Hid (hdCnt p = maxF 0 p + 1) := rfl
  have HP := hid hp
  generalize maxF 0 p = R at *
  clear hp
  go_enter Try.func31, Try.ntmps31
  go_wp2
  go_loop [3, 8] (fun v i => ∃ (k : Nat) (m : Int), k ≤ n ∧ i = .int .i64 k ∧ v = .int .i64 m ∧ 0 ≤ m ∧ m ≤ 3 ∧ Hid (maxF m (p.drop k) = R)) (fun _ i => n - (intOf i).toNat)
  case atStart => exact ⟨0, 0, Nat.zero_le _, rfl, rfl, by omega, by omega, hst⟩
  case round =>
    obtain ⟨k, m, hk, rfl, rfl, m0, m1, he⟩ := hrel
    by_cases hlt : k < n
    · obtain ⟨b, off, x, rfl, hb, hx, hd, hc⟩ := hr.at_ hlt
      obtain ⟨x0, x1⟩ := HP.out x (List.mem_of_getElem? hx)
      have he := he.out
      rw [hd, maxF] at he
      have HZ := hid he
      clear he hst hx hd hb hr hlen
      go_wp2
      go_round
      case rel => exact ⟨k + 1, max m x, by omega, by go_num, by rw [max_if], by omega, by omega, HZ⟩
      case measure => simp [intOf]; omega
    · have : k = n := by omega
      subst this
      have he := he.out
      rw [List.drop_eq_nil_of_le (by omega)] at he
      have HZ := hid he
      clear he hst hr hlen
      go_wp2
      go_ret
      exact ⟨by rw [hdc.out, ← HZ.out]; rfl, rfl⟩
/-- Which hands have been seen, as cells. -/
def seenA (l : List Int) : Array Value := #[.bool (decide ((0 : Int) ∈ l)), .bool (decide ((1 : Int) ∈ l)), .bool (decide ((2 : Int) ∈ l)), .bool (decide ((3 : Int) ∈ l))]
theorem seenA_at (l : List Int) (t : Int) (h0 : 0 ≤ t) (h1 : t ≤ 3) : (seenA l)[t.toNat]? = some (.bool (decide (t ∈ l))) := by
  rcases (show t = 0 ∨ t = 1 ∨ t = 2 ∨ t = 3 by omega) with rfl | rfl | rfl | rfl <;> rfl
theorem seenA_set (l : List Int) (t : Int) (h0 : 0 ≤ t) (h1 : t ≤ 3) : (seenA l).setIfInBounds t.toNat (.bool true) = seenA (l ++ [t]) := by
  rcases (show t = 0 ∨ t = 1 ∨ t = 2 ∨ t = 3 by omega) with rfl | rfl | rfl | rfl <;> simp [seenA]
theorem rng_stop {p : List Int} {N k : Nat} (h : k < N) (hx : ((k : Int) ∈ p) = False) : ((List.range N).all fun h => decide ((h : Int) ∈ p)) = false := by
  rw [List.all_eq_false]
  exact ⟨k, List.mem_range.2 h, by simp [hx]⟩
theorem rng_all {p : List Int} {N : Nat} (h : ∀ k : Nat, k < N → (k : Int) ∈ p) : ((List.range N).all fun h => decide ((h : Int) ∈ p)) = true := by
  rw [List.all_eq_true]
  intro k hk
  exact decide_eq_true (h k (List.mem_range.1 hk))
set_option maxHeartbeats 400000 in
theorem ValidHands_any (A : Option Addr) (n c : Nat) (p : List Int) (w : World) (hn : n ≤ 1099511627776) (hr : Rd w w.heap.size 1 A n (ints p)) :
    Calls Try.prog 13 #[.slice A n c] w fun e w' => e = .returned (.bool (hdOk p)) ∧ Below w.heap.size w w' := by
  have hlen := hr.len
  obtain ⟨R, hR⟩ : ∃ R, (p.drop 0).all (betweenB · 0 3) = R := ⟨_, rfl⟩
  have hR := hid hR
  have hth : Hid (hdOk p = (R && betweenB (n : Int) 1 12 && (List.range (hdCnt p).toNat).all fun h => decide ((h : Int) ∈ p))) := by show _ = _; rw [← hR.out, hdOk, hlen]; simp
  have hbx : Bx (w.alloc (Obj.cells #[.bool false, .bool false, .bool false, .bool false] 47)) w.heap.size 47 (seenA (p.take 0)) := Bx.new _ _ _
  go_enter Try.func13, Try.ntmps13
  go_wp2
  go_loopw [10] (fun i wr => ∃ k : Nat, k ≤ n ∧ i = .int .i64 k ∧ Hid ((p.drop k).all (betweenB · 0 3) = R) ∧ Bx wr w.heap.size 47 (seenA (p.take k)) ∧ Below w.heap.size w wr) (fun i _ => n - (intOf i).toNat)
  case atStart => exact ⟨0, Nat.zero_le _, rfl, hR, hbx, (by repeat' (first | exact Below.refl _ _ | (with_reducible assumption) | (with_reducible refine Below.alloc ?_ ?_ _) | (with_reducible refine Below.setCell ?_ ?_ _) | (with_reducible refine Below.drew ?_) | (with_reducible refine below_drewN ?_ _) | (refine Below.trans ?_ (Below.mono (by assumption) ?_)) | (with_reducible exact Nat.le_refl _) | (with_reducible assumption) | (exact Below.size (by assumption)) | omega | go_size | (simp at *; omega)))⟩
  case round =>
    obtain ⟨k, hk, rfl, he, hbx, hb0⟩ := hrel
    by_cases hlt : k < n
    · obtain ⟨b, off, x, rfl, hb, hx, hd, hc⟩ := (hr.below hb0 (Nat.le_refl _)).at_ hlt
      by_cases hx2 : betweenB x 0 3 = true
      · have HZ := hid (all_step _ he.out hd hx2)
        obtain ⟨x0, x1⟩ := (betweenB_iff _ _ _).1 hx2
        have hcell : wr.cell? ⟨w.heap.size, x.toNat, none⟩ = some (.bool (decide (x ∈ p.take k))) := (hbx.cell _).trans (seenA_at _ _ x0 x1)
        have hfz := hbx.frozen x.toNat
        have hx4 : x < 4 := by omega
        have hbx2 := hbx.set_ x.toNat (.bool true)
        rw [seenA_set _ _ x0 x1, show p.take k ++ [x] = p.take (k + 1) by rw [List.take_add_one, hx]; rfl] at hbx2
        have HB := hid hbx2
        generalize decide (x ∈ p.take k) = old at hcell
        clear he hR hth hx hd hb hr hlen hbx hbx2
        go_wp2_with (go_at_call 30; refine (between_any _ _ _ _).mono ?_; rintro e w' ⟨rfl, rfl⟩)
        go_roundw
        case rel => exact ⟨k + 1, by omega, by go_num, HZ, HB.out, (by repeat' (first | exact Below.refl _ _ | (with_reducible assumption) | (with_reducible refine Below.alloc ?_ ?_ _) | (with_reducible refine Below.setCell ?_ ?_ _) | (with_reducible refine Below.drew ?_) | (with_reducible refine below_drewN ?_ _) | (refine Below.trans ?_ (Below.mono (by assumption) ?_)) | (with_reducible exact Nat.le_refl _) | (with_reducible assumption) | (exact Below.size (by assumption)) | omega | go_size | (simp at *; omega)))⟩
        case measure => simp [intOf]; omega
      · have hx2 : betweenB x 0 3 = false := by simpa using hx2
        have hF := all_stop _ he.out hd hx2
        have HZ : Hid (hdOk p = false) := by show _ = _; rw [hth.out, hF]; simp
        clear he hR hth hx hd hb hr hlen hF hbx
        go_wp2_with (go_at_call 30; refine (between_any _ _ _ _).mono ?_; rintro e w' ⟨rfl, rfl⟩)
        go_ret
        exact ⟨ret_bool HZ.out.symm, (by repeat' (first | exact Below.refl _ _ | (with_reducible assumption) | (with_reducible refine Below.alloc ?_ ?_ _) | (with_reducible refine Below.setCell ?_ ?_ _) | (with_reducible refine Below.drew ?_) | (with_reducible refine below_drewN ?_ _) | (refine Below.trans ?_ (Below.mono (by assumption) ?_)) | (with_reducible exact Nat.le_refl _) | (with_reducible assumption) | (exact Below.size (by assumption)) | omega | go_size | (simp at *; omega)))⟩
    · have hkn : k = n := by omega
      subst hkn
      have hR2 : R = true := by
        have := he.out
        rw [List.drop_eq_nil_of_le (by omega)] at this
        rw [← this]; rfl
      subst hR2
      have hall : ∀ x ∈ p, 0 ≤ x ∧ x ≤ 3 := by
        intro x hx
        have := hR.out
        rw [List.drop_zero, List.all_eq_true] at this
        exact (betweenB_iff _ _ _).1 (this x hx)
      rw [List.take_of_length_le (by omega)] at hbx
      by_cases hbt : betweenB (k : Int) 1 12 = true
      · have hkb := (betweenB_iff _ _ _).1 hbt
        have hcnt := handCount_any A k c p wr hn hall ((hr.below hb0 (Nat.le_refl _)).more hb0.size)
        have hcnt := hid hcnt
        have hcb : 0 ≤ maxF 0 p ∧ maxF 0 p ≤ 3 := maxF_bd p 0 3 (by omega) (fun x hx => (hall x hx).2)
        have hth2 : Hid (hdOk p = (List.range (hdCnt p).toNat).all fun h => decide ((h : Int) ∈ p)) := by show _ = _; rw [hth.out, hbt]; rfl
        obtain ⟨N, hN⟩ : ∃ N : Nat, hdCnt p = (N : Int) := ⟨(maxF 0 p + 1).toNat, by rw [hdCnt]; omega⟩
        have hN4 : N ≤ 4 := by rw [hdCnt] at hN; omega
        rw [hN] at hcnt hth2
        rw [Int.toNat_natCast] at hth2
        clear hN hcb he hR hth hr hlen hall
        go_wp2_with (first | (go_at_call 30; refine (between_any _ _ _ _).mono ?_; rintro e w' ⟨rfl, rfl⟩) | (go_at_call 31; refine (hcnt.out).mono ?_; rintro e w' ⟨rfl, rfl⟩))
        go_loop [26] (fun i => ∃ j : Nat, j ≤ N ∧ i = .int .i64 j ∧ Hid (∀ i : Nat, i < j → (i : Int) ∈ p)) (fun i => N - (intOf i).toNat)
        case atStart => exact ⟨0, Nat.zero_le _, rfl, fun i hi => absurd hi (by omega)⟩
        case round =>
          obtain ⟨j, hj, rfl, hall⟩ := hrel
          by_cases hlj : j < N
          · have hcell : wr.cell? ⟨w.heap.size, j, none⟩ = some (.bool (decide ((j : Int) ∈ p))) := by
              have := seenA_at p (j : Int) (by omega) (by omega)
              rw [Int.toNat_natCast] at this
              exact (hbx.cell _).trans this
            have hj4 : (j : Int) < 4 := by omega
            by_cases hm : (j : Int) ∈ p
            · rw [decide_eq_true hm] at hcell
              have HZ : Hid (∀ i : Nat, i < j + 1 → (i : Int) ∈ p) := fun i hi => by
                rcases Nat.lt_or_eq_of_le (Nat.le_of_lt_succ hi) with h | rfl
                · exact hall.out i h
                · exact hm
              clear hall hm hbx
              go_wp2
              go_round
              case rel => exact ⟨j + 1, by omega, by go_num, HZ⟩
              case measure => simp [intOf]; omega
            · rw [decide_eq_false hm] at hcell
              have HZ : Hid (hdOk p = false) := by show _ = _; rw [hth2.out]; exact rng_stop hlj (eq_false hm)
              clear hall hm hbx
              go_wp2
              go_ret
              exact ⟨ret_bool HZ.out.symm, hb0⟩
          · have HZ : Hid (hdOk p = true) := by show _ = _; rw [hth2.out]; exact rng_all fun i hi => hall.out i (by omega)
            clear hall
            go_wp2
            go_ret
            exact ⟨ret_bool HZ.out.symm, hb0⟩
      · have hbt : betweenB (k : Int) 1 12 = false := by simpa using hbt
        have HZ : Hid (hdOk p = false) := by show _ = _; rw [hth.out, hbt]; simp
        clear he hR hth hr hlen hall hbx
        go_wp2_with (go_at_call 30; refine (between_any _ _ _ _).mono ?_; rintro e w' ⟨rfl, rfl⟩)
        go_ret
        exact ⟨ret_bool HZ.out.symm, hb0⟩
end Go.Proofs.Ytopakpgmmfkcnaa
