/- Contracts of the functions of synchronous patterns: equality, props, crossings. -/
import Derived.Test.YtjagejalchfhlaaYd
namespace Go.Proofs.Ytjagejalchfhlaa
open Go.RowKit
set_option linter.unusedVariables false

theorem beat_ne {x1 x3 y1 y3 : Int} {x2 x4 y2 y4 : Bool} (h : ¬ (((x1, x2), (x3, x4)) : Beat) = ((y1, y2), (y3, y4))) : x1 ≠ y1 ∨ (x1 = y1 ∧ x2 ≠ y2) ∨ (x1 = y1 ∧ x2 = y2 ∧ x3 ≠ y3) ∨ (x1 = y1 ∧ x2 = y2 ∧ x3 = y3 ∧ x4 ≠ y4) := by
  by_cases h1 : x1 = y1
  · by_cases h2 : x2 = y2
    · by_cases h3 : x3 = y3
      · exact .inr (.inr (.inr ⟨h1, h2, h3, fun h4 => h (by subst h1 h2 h3 h4; rfl)⟩))
      · exact .inr (.inr (.inl ⟨h1, h2, h3⟩))
    · exact .inr (.inl ⟨h1, h2⟩)
  · exact .inl h1
theorem SameSync_any (A A' : Option Addr) (n n' c c' : Nat) (xs ys : List Beat) (w : World) (hn : n ≤ 1099511627776) (hn' : n' ≤ 1099511627776) (h : Rd w w.heap.size 4 A n (bts xs)) (h' : Rd w w.heap.size 4 A' n' (bts ys)) :
    Calls Try.prog 23 #[.slice A n c, .slice A' n' c'] w fun e w' => e = .returned (.bool (decide (xs = ys))) ∧ Below w.heap.size w w' := by
  have hl := h.bt_len
  have hl' := h'.bt_len
  by_cases hnn : n = n'
  · subst hnn
    have hst : Hid (decide (xs.drop 0 = ys.drop 0) = decide (xs = ys)) := rfl
    go_enter Try.func23, Try.ntmps23
    go_wp2
    go_loopw [13] (fun i wr => ∃ k : Nat, k ≤ n ∧ i = .int .i64 k ∧ Hid (decide (xs.drop k = ys.drop k) = decide (xs = ys)) ∧ Below w.heap.size w wr) (fun i _ => n - (intOf i).toNat)
    case atStart => exact ⟨0, Nat.zero_le _, rfl, hst, Below.refl _ _⟩
    case round =>
    obtain ⟨k, hk, rfl, he, hb0⟩ := hrel
    by_cases hlt : k < n
    · obtain ⟨b, off, x, rfl, hb, hx, hd, c0, c1, c2, c3⟩ := (h.below hb0 (Nat.le_refl _)).bt_at hlt
      obtain ⟨b', off', x', rfl, hb', hx', hd', d0, d1, d2, d3⟩ := (h'.below hb0 (Nat.le_refl _)).bt_at hlt
      obtain ⟨⟨x1, x2⟩, ⟨x3, x4⟩⟩ := x
      obtain ⟨⟨y1, y2⟩, ⟨y3, y4⟩⟩ := x'
      by_cases hxx : (((x1, x2), (x3, x4)) : Beat) = ((y1, y2), (y3, y4))
      · have HZ : Hid (decide (xs.drop (k + 1) = ys.drop (k + 1)) = decide (xs = ys)) := by
          show _ = _
          rw [← he.out, hd, hd', hxx]; simp
        injection hxx with h1 h2
        injection h1 with h1 h3
        injection h2 with h2 h4
        subst h1 h2 h3 h4
        clear hx hx' hd hd' he hst h h' hb hb' hl hl'
        go_wp2
        go_quiet (fail)
        go_wp2
        go_roundw
        case rel => exact ⟨k + 1, by omega, by go_num, HZ, (by repeat' (first | exact Below.refl _ _ | (with_reducible assumption) | (with_reducible refine Below.alloc ?_ ?_ _) | (with_reducible refine Below.setCell ?_ ?_ _) | (with_reducible refine Below.drew ?_) | (with_reducible refine below_drewN ?_ _) | (refine Below.trans ?_ (Below.mono (by assumption) ?_)) | (with_reducible exact Nat.le_refl _) | (with_reducible assumption) | (exact Below.size (by assumption)) | omega | go_size | (simp at *; omega)))⟩
        case measure => simp [intOf]; omega
      · have HZ : Hid (decide (xs = ys) = false) := by
          show _ = _
          rw [← he.out, hd, hd']
          refine decide_eq_false fun e => hxx ?_
          injection e
        rcases beat_ne hxx with h1 | ⟨h1, h2⟩ | ⟨h1, h2, h3⟩ | ⟨h1, h2, h3, h4⟩
        · have hq : (x1 == y1) = false := by simpa using h1
          clear hx hx' hd hd' he hst h h' hb hb' hl hl' hxx h1
          go_wp2
          go_quiet (fail)
          go_wp2
          go_ret
          exact ⟨ret_bool HZ.out.symm, (by repeat' (first | exact Below.refl _ _ | (with_reducible assumption) | (with_reducible refine Below.alloc ?_ ?_ _) | (with_reducible refine Below.setCell ?_ ?_ _) | (with_reducible refine Below.drew ?_) | (with_reducible refine below_drewN ?_ _) | (refine Below.trans ?_ (Below.mono (by assumption) ?_)) | (with_reducible exact Nat.le_refl _) | (with_reducible assumption) | (exact Below.size (by assumption)) | omega | go_size | (simp at *; omega)))⟩
        · have hq : (x2 == y2) = false := by simpa using h2
          subst h1
          clear hx hx' hd hd' he hst h h' hb hb' hl hl' hxx h2
          go_wp2
          go_quiet (fail)
          go_wp2
          go_ret
          exact ⟨ret_bool HZ.out.symm, (by repeat' (first | exact Below.refl _ _ | (with_reducible assumption) | (with_reducible refine Below.alloc ?_ ?_ _) | (with_reducible refine Below.setCell ?_ ?_ _) | (with_reducible refine Below.drew ?_) | (with_reducible refine below_drewN ?_ _) | (refine Below.trans ?_ (Below.mono (by assumption) ?_)) | (with_reducible exact Nat.le_refl _) | (with_reducible assumption) | (exact Below.size (by assumption)) | omega | go_size | (simp at *; omega)))⟩
        · have hq : (x3 == y3) = false := by simpa using h3
          subst h1 h2
          clear hx hx' hd hd' he hst h h' hb hb' hl hl' hxx h3
          go_wp2
          go_quiet (fail)
          go_wp2
          go_ret
          exact ⟨ret_bool HZ.out.symm, (by repeat' (first | exact Below.refl _ _ | (with_reducible assumption) | (with_reducible refine Below.alloc ?_ ?_ _) | (with_reducible refine Below.setCell ?_ ?_ _) | (with_reducible refine Below.drew ?_) | (with_reducible refine below_drewN ?_ _) | (refine Below.trans ?_ (Below.mono (by assumption) ?_)) | (with_reducible exact Nat.le_refl _) | (with_reducible assumption) | (exact Below.size (by assumption)) | omega | go_size | (simp at *; omega)))⟩
        · have hq : (x4 == y4) = false := by simpa using h4
          subst h1 h2 h3
          clear hx hx' hd hd' he hst h h' hb hb' hl hl' hxx h4
          go_wp2
          go_quiet (fail)
          go_wp2
          go_ret
          exact ⟨ret_bool HZ.out.symm, (by repeat' (first | exact Below.refl _ _ | (with_reducible assumption) | (with_reducible refine Below.alloc ?_ ?_ _) | (with_reducible refine Below.setCell ?_ ?_ _) | (with_reducible refine Below.drew ?_) | (with_reducible refine below_drewN ?_ _) | (refine Below.trans ?_ (Below.mono (by assumption) ?_)) | (with_reducible exact Nat.le_refl _) | (with_reducible assumption) | (exact Below.size (by assumption)) | omega | go_size | (simp at *; omega)))⟩
    · have HZ : Hid (decide (xs = ys) = true) := by
        show _ = _
        rw [← he.out, List.drop_eq_nil_of_le (by omega), List.drop_eq_nil_of_le (by omega)]; rfl
      clear he hst hl hl' h h'
      go_wp2
      go_ret
      exact ⟨ret_bool HZ.out.symm, (by repeat' (first | exact Below.refl _ _ | (with_reducible assumption) | (with_reducible refine Below.alloc ?_ ?_ _) | (with_reducible refine Below.setCell ?_ ?_ _) | (with_reducible refine Below.drew ?_) | (with_reducible refine below_drewN ?_ _) | (refine Below.trans ?_ (Below.mono (by assumption) ?_)) | (with_reducible exact Nat.le_refl _) | (with_reducible assumption) | (exact Below.size (by assumption)) | omega | go_size | (simp at *; omega)))⟩
  · have HZ : Hid (decide (xs = ys) = false) := by
      show _ = _
      refine decide_eq_false fun e => hnn ?_
      rw [← hl, ← hl', e]
    clear hl hl' h h'
    go_enter Try.func23, Try.ntmps23
    go_wp2
    go_ret
    exact ⟨ret_bool HZ.out.symm, (by repeat' (first | exact Below.refl _ _ | (with_reducible assumption) | (with_reducible refine Below.alloc ?_ ?_ _) | (with_reducible refine Below.setCell ?_ ?_ _) | (with_reducible refine Below.drew ?_) | (with_reducible refine below_drewN ?_ _) | (refine Below.trans ?_ (Below.mono (by assumption) ?_)) | (with_reducible exact Nat.le_refl _) | (with_reducible assumption) | (exact Below.size (by assumption)) | omega | go_size | (simp at *; omega)))⟩
theorem specSameSync_any (A A' : Option Addr) (n n' c c' : Nat) (xs ys : List Beat) (w : World) (hn : n ≤ 1099511627776) (hn' : n' ≤ 1099511627776) (h : Rd w w.heap.size 4 A n (bts xs)) (h' : Rd w w.heap.size 4 A' n' (bts ys)) :
    Calls Try.prog 22 #[.slice A n c, .slice A' n' c'] w fun e w' => e = .returned (.bool (decide (xs = ys))) ∧ Below w.heap.size w w' := by
  have hl := h.bt_len
  have hl' := h'.bt_len
  by_cases hnn : n = n'
  · subst hnn
    have hst : Hid (decide (xs.drop 0 = ys.drop 0) = decide (xs = ys)) := rfl
    go_enter Try.func22, Try.ntmps22
    go_wp2
    go_loopw [5] (fun i wr => ∃ k : Nat, k ≤ n ∧ i = .int .i64 k ∧ Hid (decide (xs.drop k = ys.drop k) = decide (xs = ys)) ∧ Below w.heap.size w wr) (fun i _ => n - (intOf i).toNat)
    case atStart => exact ⟨0, Nat.zero_le _, rfl, hst, Below.refl _ _⟩
    case round =>
    obtain ⟨k, hk, rfl, he, hb0⟩ := hrel
    by_cases hlt : k < n
    · obtain ⟨b, off, x, rfl, hb, hx, hd, c0, c1, c2, c3⟩ := (h.below hb0 (Nat.le_refl _)).bt_at hlt
      obtain ⟨b', off', x', rfl, hb', hx', hd', d0, d1, d2, d3⟩ := (h'.below hb0 (Nat.le_refl _)).bt_at hlt
      obtain ⟨⟨x1, x2⟩, ⟨x3, x4⟩⟩ := x
      obtain ⟨⟨y1, y2⟩, ⟨y3, y4⟩⟩ := x'
      by_cases hxx : (((x1, x2), (x3, x4)) : Beat) = ((y1, y2), (y3, y4))
      · have HZ : Hid (decide (xs.drop (k + 1) = ys.drop (k + 1)) = decide (xs = ys)) := by
          show _ = _
          rw [← he.out, hd, hd', hxx]; simp
        injection hxx with h1 h2
        injection h1 with h1 h3
        injection h2 with h2 h4
        subst h1 h2 h3 h4
        clear hx hx' hd hd' he hst h h' hb hb' hl hl'
        go_wp2
        go_quiet (fail)
        go_wp2
        go_roundw
        case rel => exact ⟨k + 1, by omega, by go_num, HZ, (by repeat' (first | exact Below.refl _ _ | (with_reducible assumption) | (with_reducible refine Below.alloc ?_ ?_ _) | (with_reducible refine Below.setCell ?_ ?_ _) | (with_reducible refine Below.drew ?_) | (with_reducible refine below_drewN ?_ _) | (refine Below.trans ?_ (Below.mono (by assumption) ?_)) | (with_reducible exact Nat.le_refl _) | (with_reducible assumption) | (exact Below.size (by assumption)) | omega | go_size | (simp at *; omega)))⟩
        case measure => simp [intOf]; omega
      · have HZ : Hid (decide (xs = ys) = false) := by
          show _ = _
          rw [← he.out, hd, hd']
          refine decide_eq_false fun e => hxx ?_
          injection e
        rcases beat_ne hxx with h1 | ⟨h1, h2⟩ | ⟨h1, h2, h3⟩ | ⟨h1, h2, h3, h4⟩
        · have hq : (x1 == y1) = false := by simpa using h1
          clear hx hx' hd hd' he hst h h' hb hb' hl hl' hxx h1
          go_wp2
          go_quiet (fail)
          go_wp2
          go_ret
          exact ⟨ret_bool HZ.out.symm, (by repeat' (first | exact Below.refl _ _ | (with_reducible assumption) | (with_reducible refine Below.alloc ?_ ?_ _) | (with_reducible refine Below.setCell ?_ ?_ _) | (with_reducible refine Below.drew ?_) | (with_reducible refine below_drewN ?_ _) | (refine Below.trans ?_ (Below.mono (by assumption) ?_)) | (with_reducible exact Nat.le_refl _) | (with_reducible assumption) | (exact Below.size (by assumption)) | omega | go_size | (simp at *; omega)))⟩
        · have hq : (x2 == y2) = false := by simpa using h2
          subst h1
          clear hx hx' hd hd' he hst h h' hb hb' hl hl' hxx h2
          go_wp2
          go_quiet (fail)
          go_wp2
          go_ret
          exact ⟨ret_bool HZ.out.symm, (by repeat' (first | exact Below.refl _ _ | (with_reducible assumption) | (with_reducible refine Below.alloc ?_ ?_ _) | (with_reducible refine Below.setCell ?_ ?_ _) | (with_reducible refine Below.drew ?_) | (with_reducible refine below_drewN ?_ _) | (refine Below.trans ?_ (Below.mono (by assumption) ?_)) | (with_reducible exact Nat.le_refl _) | (with_reducible assumption) | (exact Below.size (by assumption)) | omega | go_size | (simp at *; omega)))⟩
        · have hq : (x3 == y3) = false := by simpa using h3
          subst h1 h2
          clear hx hx' hd hd' he hst h h' hb hb' hl hl' hxx h3
          go_wp2
          go_quiet (fail)
          go_wp2
          go_ret
          exact ⟨ret_bool HZ.out.symm, (by repeat' (first | exact Below.refl _ _ | (with_reducible assumption) | (with_reducible refine Below.alloc ?_ ?_ _) | (with_reducible refine Below.setCell ?_ ?_ _) | (with_reducible refine Below.drew ?_) | (with_reducible refine below_drewN ?_ _) | (refine Below.trans ?_ (Below.mono (by assumption) ?_)) | (with_reducible exact Nat.le_refl _) | (with_reducible assumption) | (exact Below.size (by assumption)) | omega | go_size | (simp at *; omega)))⟩
        · have hq : (x4 == y4) = false := by simpa using h4
          subst h1 h2 h3
          clear hx hx' hd hd' he hst h h' hb hb' hl hl' hxx h4
          go_wp2
          go_quiet (fail)
          go_wp2
          go_ret
          exact ⟨ret_bool HZ.out.symm, (by repeat' (first | exact Below.refl _ _ | (with_reducible assumption) | (with_reducible refine Below.alloc ?_ ?_ _) | (with_reducible refine Below.setCell ?_ ?_ _) | (with_reducible refine Below.drew ?_) | (with_reducible refine below_drewN ?_ _) | (refine Below.trans ?_ (Below.mono (by assumption) ?_)) | (with_reducible exact Nat.le_refl _) | (with_reducible assumption) | (exact Below.size (by assumption)) | omega | go_size | (simp at *; omega)))⟩
    · have HZ : Hid (decide (xs = ys) = true) := by
        show _ = _
        rw [← he.out, List.drop_eq_nil_of_le (by omega), List.drop_eq_nil_of_le (by omega)]; rfl
      clear he hst hl hl' h h'
      go_wp2
      go_ret
      exact ⟨ret_bool HZ.out.symm, (by repeat' (first | exact Below.refl _ _ | (with_reducible assumption) | (with_reducible refine Below.alloc ?_ ?_ _) | (with_reducible refine Below.setCell ?_ ?_ _) | (with_reducible refine Below.drew ?_) | (with_reducible refine below_drewN ?_ _) | (refine Below.trans ?_ (Below.mono (by assumption) ?_)) | (with_reducible exact Nat.le_refl _) | (with_reducible assumption) | (exact Below.size (by assumption)) | omega | go_size | (simp at *; omega)))⟩
  · have HZ : Hid (decide (xs = ys) = false) := by
      show _ = _
      refine decide_eq_false fun e => hnn ?_
      rw [← hl, ← hl', e]
    clear hl hl' h h'
    go_enter Try.func22, Try.ntmps22
    go_wp2
    go_ret
    exact ⟨ret_bool HZ.out.symm, (by repeat' (first | exact Below.refl _ _ | (with_reducible assumption) | (with_reducible refine Below.alloc ?_ ?_ _) | (with_reducible refine Below.setCell ?_ ?_ _) | (with_reducible refine Below.drew ?_) | (with_reducible refine below_drewN ?_ _) | (refine Below.trans ?_ (Below.mono (by assumption) ?_)) | (with_reducible exact Nat.le_refl _) | (with_reducible assumption) | (exact Below.size (by assumption)) | omega | go_size | (simp at *; omega)))⟩
/-- How many of the throws below a number cross. -/
def crs (p : List Beat) : Nat → Int
  | 0 => 0
  | k + 1 => crs p k + (if (nth p k).2 then 1 else 0)
def rCross (p : List Beat) : Int × Int := if syOk p then (crs p (2 * p.length), 0) else (0, 1)
theorem SyncProps_any (A : Option Addr) (n c : Nat) (p : List Beat) (w : World) (hn : n ≤ 1099511627776) (hr : Rd w w.heap.size 4 A n (bts p)) :
    Calls Try.prog 25 #[.slice A n c] w fun e w' => e = .returned (.tuple #[.int .i64 (rSyncProps p).1, .int .i64 (rSyncProps p).2]) ∧ Below w.heap.size w w' := by
  have hlen := hr.bt_len
  have hV := ValidSync_any A n c p w hn hr
  cases hp : syOk p with
  | true =>
    rw [hp] at hV
    have hV := hid hV
    have hbd := hid (fun x (hx : x ∈ p) => beat_bd (syOk_b hp) hx)
    obtain ⟨h1, h6⟩ := syOk_bd hp
    rw [hlen] at h1 h6
    have HO : Hid (rSyncProps p = (sumB p / (2 * (n : Int)), 0)) := by show _ = _; simp [rSyncProps, hp, syPr, hlen]
    have hst : Hid (0 + sumB (p.drop 0) = sumB p) := by show _ = _; simp
    obtain ⟨S, hS⟩ : ∃ S, sumB p = S := ⟨_, rfl⟩
    rw [hS] at HO hst
    have HR := hid hr
    have HL := hid hlen
    obtain ⟨D, hD⟩ : ∃ D : Int, 2 * (n : Int) = D := ⟨_, rfl⟩
    rw [hD] at HO
    have hD1 : 2 ≤ D := by omega
    have hD2 : D ≤ 12 := by omega
    have HD := hid hD
    clear hr hp hlen hS hD
    go_enter Try.func25, Try.ntmps25
    go_wp2_with fail
    refine hV.out.mono ?_
    rintro e w1 ⟨rfl, hb1⟩
    go_wp2
    go_loopw [4, 12] (fun s i wr => Hid (∃ (k : Nat) (x : Int), k ≤ n ∧ i = .int .i64 k ∧ s = .int .i64 x ∧ 0 ≤ x ∧ x ≤ 28 * k ∧ Hid (x + sumB (p.drop k) = S) ∧ Below w.heap.size w wr)) (fun _ i _ => n - (intOf i).toNat)
    case atStart => exact hid ⟨0, 0, Nat.zero_le _, rfl, rfl, by omega, by omega, hst, hb1⟩
    case round =>
      obtain ⟨k, x, hk, rfl, rfl, hx0, hx1, he, hb0⟩ := hrel.out
      have hz := hb0.size
      clear hrel hb1 hst
      by_cases hlt : k < n
      · obtain ⟨b, off, y, rfl, hb, hy, hd, c0, c1, c2, c3⟩ := (HR.out.below hb0 (Nat.le_refl _)).bt_at hlt
        obtain ⟨y0, y1, z0, z1⟩ := hbd.out y (List.mem_of_getElem? hy)
        obtain ⟨⟨q1, q2⟩, ⟨q3, q4⟩⟩ := y
        have HZ : Hid (x + (q1 + q3) + sumB (p.drop (k + 1)) = S) := by
          show _ = _
          have h := he.out
          rw [hd, show sumB (((q1, q2), (q3, q4)) :: p.drop (k + 1)) = q1 + q3 + sumB (p.drop (k + 1)) from rfl] at h
          omega
        simp only at y0 y1 z0 z1
        clear he hy hd
        have hbw : b < wr.heap.size := by omega
        go_wp2
        go_roundw
        case rel => exact hid ⟨k + 1, x + (q1 + q3), by omega, by go_num, by go_num, by omega, by omega, HZ, (by repeat' (first | exact Below.refl _ _ | (with_reducible assumption) | (with_reducible refine Below.alloc ?_ ?_ _) | (with_reducible refine Below.setCell ?_ ?_ _) | (with_reducible refine Below.drew ?_) | (with_reducible refine below_drewN ?_ _) | (refine Below.trans ?_ (Below.mono (by assumption) ?_)) | (with_reducible exact Nat.le_refl _) | (with_reducible assumption) | (exact Below.size (by assumption)) | omega | go_size | (simp at *; omega)))⟩
        case measure => simp [intOf]; omega
      · have HZ : Hid (x = S) := by
          show _ = _
          have h := he.out
          rw [List.drop_eq_nil_of_le (by rw [HL.out]; omega)] at h
          simp only [sumB, Int.add_zero] at h
          exact h
        clear he
        have hD := HD.out
        go_wp2
        go_ret2
        exact ⟨by rw [HO.out, ← HZ.out]; first | done | rfl, (by repeat' (first | exact Below.refl _ _ | (with_reducible assumption) | (with_reducible refine Below.alloc ?_ ?_ _) | (with_reducible refine Below.setCell ?_ ?_ _) | (with_reducible refine Below.drew ?_) | (with_reducible refine below_drewN ?_ _) | (refine Below.trans ?_ (Below.mono (by assumption) ?_)) | (with_reducible exact Nat.le_refl _) | (with_reducible assumption) | (exact Below.size (by assumption)) | omega | go_size | (simp at *; omega)))⟩
  | false =>
    rw [hp] at hV
    have hV := hid hV
    have HO : Hid (rSyncProps p = (0, 1)) := by show _ = _; simp [rSyncProps, hp]
    clear hr hp
    go_enter Try.func25, Try.ntmps25
    go_wp2_with fail
    refine hV.out.mono ?_
    rintro e w1 ⟨rfl, hb1⟩
    go_wp2
    go_ret2
    exact ⟨by rw [HO.out]; first | done | rfl, (by repeat' (first | exact Below.refl _ _ | (with_reducible assumption) | (with_reducible refine Below.alloc ?_ ?_ _) | (with_reducible refine Below.setCell ?_ ?_ _) | (with_reducible refine Below.drew ?_) | (with_reducible refine below_drewN ?_ _) | (refine Below.trans ?_ (Below.mono (by assumption) ?_)) | (with_reducible exact Nat.le_refl _) | (with_reducible assumption) | (exact Below.size (by assumption)) | omega | go_size | (simp at *; omega)))⟩
theorem specSyncProps_any (A : Option Addr) (n c : Nat) (p : List Beat) (w : World) (hn : n ≤ 1099511627776) (hr : Rd w w.heap.size 4 A n (bts p)) :
    Calls Try.prog 32 #[.slice A n c] w fun e w' => e = .returned (.tuple #[.int .i64 (rSyncProps p).1, .int .i64 (rSyncProps p).2]) ∧ Below w.heap.size w w' := by
  have hlen := hr.bt_len
  have hV := l05Ok_any A n c p w hn hr
  cases hp : syOk p with
  | true =>
    rw [hp] at hV
    have hV := hid hV
    have hbd := hid (fun x (hx : x ∈ p) => beat_bd (syOk_b hp) hx)
    obtain ⟨h1, h6⟩ := syOk_bd hp
    rw [hlen] at h1 h6
    have HO : Hid (rSyncProps p = (sumB p / (2 * (n : Int)), 0)) := by show _ = _; simp [rSyncProps, hp, syPr, hlen]
    have hst : Hid (0 + sumB (p.drop 0) = sumB p) := by show _ = _; simp
    obtain ⟨S, hS⟩ : ∃ S, sumB p = S := ⟨_, rfl⟩
    rw [hS] at HO hst
    have HR := hid hr
    have HL := hid hlen
    obtain ⟨D, hD⟩ : ∃ D : Int, 2 * (n : Int) = D := ⟨_, rfl⟩
    rw [hD] at HO
    have hD1 : 2 ≤ D := by omega
    have hD2 : D ≤ 12 := by omega
    have HD := hid hD
    clear hr hp hlen hS hD
    go_enter Try.func32, Try.ntmps32
    go_wp2_with fail
    refine hV.out.mono ?_
    rintro e w1 ⟨rfl, hb1⟩
    go_wp2
    go_loopw [4, 5] (fun s i wr => Hid (∃ (k : Nat) (x : Int), k ≤ n ∧ i = .int .i64 k ∧ s = .int .i64 x ∧ 0 ≤ x ∧ x ≤ 28 * k ∧ Hid (x + sumB (p.drop k) = S) ∧ Below w.heap.size w wr)) (fun _ i _ => n - (intOf i).toNat)
    case atStart => exact hid ⟨0, 0, Nat.zero_le _, rfl, rfl, by omega, by omega, hst, hb1⟩
    case round =>
      obtain ⟨k, x, hk, rfl, rfl, hx0, hx1, he, hb0⟩ := hrel.out
      have hz := hb0.size
      clear hrel hb1 hst
      by_cases hlt : k < n
      · obtain ⟨b, off, y, rfl, hb, hy, hd, c0, c1, c2, c3⟩ := (HR.out.below hb0 (Nat.le_refl _)).bt_at hlt
        obtain ⟨y0, y1, z0, z1⟩ := hbd.out y (List.mem_of_getElem? hy)
        obtain ⟨⟨q1, q2⟩, ⟨q3, q4⟩⟩ := y
        have HZ : Hid (x + (q1 + q3) + sumB (p.drop (k + 1)) = S) := by
          show _ = _
          have h := he.out
          rw [hd, show sumB (((q1, q2), (q3, q4)) :: p.drop (k + 1)) = q1 + q3 + sumB (p.drop (k + 1)) from rfl] at h
          omega
        simp only at y0 y1 z0 z1
        clear he hy hd
        have hbw : b < wr.heap.size := by omega
        go_wp2
        go_quiet (fail)
        go_wp2
        go_roundw
        case rel => exact hid ⟨k + 1, x + (q1 + q3), by omega, by go_num, by go_num, by omega, by omega, HZ, (by repeat' (first | exact Below.refl _ _ | (with_reducible assumption) | (with_reducible refine Below.alloc ?_ ?_ _) | (with_reducible refine Below.setCell ?_ ?_ _) | (with_reducible refine Below.drew ?_) | (with_reducible refine below_drewN ?_ _) | (refine Below.trans ?_ (Below.mono (by assumption) ?_)) | (with_reducible exact Nat.le_refl _) | (with_reducible assumption) | (exact Below.size (by assumption)) | omega | go_size | (simp at *; omega)))⟩
        case measure => simp [intOf]; omega
      · have HZ : Hid (x = S) := by
          show _ = _
          have h := he.out
          rw [List.drop_eq_nil_of_le (by rw [HL.out]; omega)] at h
          simp only [sumB, Int.add_zero] at h
          exact h
        clear he
        have hD := HD.out
        go_wp2
        go_ret2
        exact ⟨by rw [HO.out, ← HZ.out]; first | done | rfl, (by repeat' (first | exact Below.refl _ _ | (with_reducible assumption) | (with_reducible refine Below.alloc ?_ ?_ _) | (with_reducible refine Below.setCell ?_ ?_ _) | (with_reducible refine Below.drew ?_) | (with_reducible refine below_drewN ?_ _) | (refine Below.trans ?_ (Below.mono (by assumption) ?_)) | (with_reducible exact Nat.le_refl _) | (with_reducible assumption) | (exact Below.size (by assumption)) | omega | go_size | (simp at *; omega)))⟩
  | false =>
    rw [hp] at hV
    have hV := hid hV
    have HO : Hid (rSyncProps p = (0, 1)) := by show _ = _; simp [rSyncProps, hp]
    clear hr hp
    go_enter Try.func32, Try.ntmps32
    go_wp2_with fail
    refine hV.out.mono ?_
    rintro e w1 ⟨rfl, hb1⟩
    go_wp2
    go_ret2
    exact ⟨by rw [HO.out]; first | done | rfl, (by repeat' (first | exact Below.refl _ _ | (with_reducible assumption) | (with_reducible refine Below.alloc ?_ ?_ _) | (with_reducible refine Below.setCell ?_ ?_ _) | (with_reducible refine Below.drew ?_) | (with_reducible refine below_drewN ?_ _) | (refine Below.trans ?_ (Below.mono (by assumption) ?_)) | (with_reducible exact Nat.le_refl _) | (with_reducible assumption) | (exact Below.size (by assumption)) | omega | go_size | (simp at *; omega)))⟩
theorem fld_cross (v : Int) (c : Bool) : ∀ w : World, (Instr.field 90 (.agg #[.int .i64 v, .bool c]) 1).run Try.prog w = .ok (.bool c) w := fun _ => by kernel_rfl
theorem CrossCount_any (A : Option Addr) (n c : Nat) (p : List Beat) (w : World) (hn : n ≤ 1099511627776) (hr : Rd w w.heap.size 4 A n (bts p)) :
    Calls Try.prog 33 #[.slice A n c] w fun e w' => e = .returned (.tuple #[.int .i64 (rCross p).1, .int .i64 (rCross p).2]) ∧ Below w.heap.size w w' := by
  have hlen := hr.bt_len
  have hV := ValidSync_any A n c p w hn hr
  cases hp : syOk p with
  | true =>
    rw [hp] at hV
    have hV := hid hV
    obtain ⟨h1, h6⟩ := syOk_bd hp
    rw [hlen] at h1 h6
    obtain ⟨N, hN⟩ : ∃ N : Nat, 2 * (n : Int) = (N : Int) := ⟨2 * n, by omega⟩
    have hNn : N = 2 * n := by omega
    have HO : Hid (rCross p = (crs p N, 0)) := by show _ = _; simp [rCross, hp, hlen, hNn]
    have hG := hid (fun (w1 : World) (b : Below w.heap.size w w1) (k : Nat) (hk : k < N) => numbered_any A n c k p w1 hn (by omega) ((hr.below b (Nat.le_refl _)).more b.size))
    have hst : Hid (crs p 0 = 0) := rfl
    have hcs := hid (fun k => show crs p (k + 1) = crs p k + (if (nth p k).2 then 1 else 0) from rfl)
    have hN6 : N ≤ 12 := by omega
    generalize crs p = C at *
    clear hr hp hlen hNn
    go_enter Try.func33, Try.ntmps33
    go_wp2_with fail
    refine hV.out.mono ?_
    rintro e w1 ⟨rfl, hb1⟩
    go_wp2
    go_loopw [4, 12] (fun s i wr => Hid (∃ (k : Nat) (x : Int), k ≤ N ∧ i = .int .i64 k ∧ s = .int .i64 x ∧ 0 ≤ x ∧ x ≤ k ∧ Hid (x = C k) ∧ Below w.heap.size w wr)) (fun _ i _ => N - (intOf i).toNat)
    case atStart => exact hid ⟨0, 0, Nat.zero_le _, rfl, rfl, by omega, by omega, hst.out.symm, hb1⟩
    case round =>
      obtain ⟨k, x, hk, rfl, rfl, hx0, hx1, he, hb0⟩ := hrel.out
      have hz := hb0.size
      clear hrel hb1 hst
      by_cases hlt : k < N
      · have hC := hid (hG.out _ hb0 k hlt)
        have hs := hid (hcs.out k)
        generalize nth p k = t at *
        obtain ⟨v, cr⟩ := t
        cases cr
        · have HZ : Hid (x = C (k + 1)) := by show _ = _; rw [hs.out, ← he.out]; simp
          clear he hs
          go_wp2_with fail
          refine hC.out.mono ?_
          rintro e w3 ⟨rfl, hb3⟩
          have hfd := fld_cross v false
          go_wp2
          go_roundw
          case rel => exact hid ⟨k + 1, x, by omega, by go_num, by go_num, by omega, by omega, HZ, (by repeat' (first | exact Below.refl _ _ | (with_reducible assumption) | (with_reducible refine Below.alloc ?_ ?_ _) | (with_reducible refine Below.setCell ?_ ?_ _) | (with_reducible refine Below.drew ?_) | (with_reducible refine below_drewN ?_ _) | (refine Below.trans ?_ (Below.mono (by assumption) ?_)) | (with_reducible exact Nat.le_refl _) | (with_reducible assumption) | (exact Below.size (by assumption)) | omega | go_size | (simp at *; omega)))⟩
          case measure => simp [intOf]; omega
        · have HZ : Hid (x + 1 = C (k + 1)) := by show _ = _; rw [hs.out, ← he.out]; simp
          clear he hs
          go_wp2_with fail
          refine hC.out.mono ?_
          rintro e w3 ⟨rfl, hb3⟩
          have hfd := fld_cross v true
          go_wp2
          go_roundw
          case rel => exact hid ⟨k + 1, x + 1, by omega, by go_num, by go_num, by omega, by omega, HZ, (by repeat' (first | exact Below.refl _ _ | (with_reducible assumption) | (with_reducible refine Below.alloc ?_ ?_ _) | (with_reducible refine Below.setCell ?_ ?_ _) | (with_reducible refine Below.drew ?_) | (with_reducible refine below_drewN ?_ _) | (refine Below.trans ?_ (Below.mono (by assumption) ?_)) | (with_reducible exact Nat.le_refl _) | (with_reducible assumption) | (exact Below.size (by assumption)) | omega | go_size | (simp at *; omega)))⟩
          case measure => simp [intOf]; omega
      · obtain rfl : k = N := by omega
        have HZ : Hid (C k = x) := he.out.symm
        clear he
        go_wp2
        go_ret2
        exact ⟨by rw [HO.out, HZ.out]; first | done | rfl, (by repeat' (first | exact Below.refl _ _ | (with_reducible assumption) | (with_reducible refine Below.alloc ?_ ?_ _) | (with_reducible refine Below.setCell ?_ ?_ _) | (with_reducible refine Below.drew ?_) | (with_reducible refine below_drewN ?_ _) | (refine Below.trans ?_ (Below.mono (by assumption) ?_)) | (with_reducible exact Nat.le_refl _) | (with_reducible assumption) | (exact Below.size (by assumption)) | omega | go_size | (simp at *; omega)))⟩
  | false =>
    rw [hp] at hV
    have hV := hid hV
    have HO : Hid (rCross p = (0, 1)) := by show _ = _; simp [rCross, hp]
    clear hr hp
    go_enter Try.func33, Try.ntmps33
    go_wp2_with fail
    refine hV.out.mono ?_
    rintro e w1 ⟨rfl, hb1⟩
    go_wp2
    go_ret2
    exact ⟨by rw [HO.out]; first | done | rfl, (by repeat' (first | exact Below.refl _ _ | (with_reducible assumption) | (with_reducible refine Below.alloc ?_ ?_ _) | (with_reducible refine Below.setCell ?_ ?_ _) | (with_reducible refine Below.drew ?_) | (with_reducible refine below_drewN ?_ _) | (refine Below.trans ?_ (Below.mono (by assumption) ?_)) | (with_reducible exact Nat.le_refl _) | (with_reducible assumption) | (exact Below.size (by assumption)) | omega | go_size | (simp at *; omega)))⟩
theorem specCrossCount_any (A : Option Addr) (n c : Nat) (p : List Beat) (w : World) (hn : n ≤ 1099511627776) (hr : Rd w w.heap.size 4 A n (bts p)) :
    Calls Try.prog 34 #[.slice A n c] w fun e w' => e = .returned (.tuple #[.int .i64 (rCross p).1, .int .i64 (rCross p).2]) ∧ Below w.heap.size w w' := by
  have hlen := hr.bt_len
  have hV := l05Ok_any A n c p w hn hr
  cases hp : syOk p with
  | true =>
    rw [hp] at hV
    have hV := hid hV
    obtain ⟨h1, h6⟩ := syOk_bd hp
    rw [hlen] at h1 h6
    obtain ⟨N, hN⟩ : ∃ N : Nat, 2 * (n : Int) = (N : Int) := ⟨2 * n, by omega⟩
    have hNn : N = 2 * n := by omega
    have HO : Hid (rCross p = (crs p N, 0)) := by show _ = _; simp [rCross, hp, hlen, hNn]
    have hG := hid (fun (w1 : World) (b : Below w.heap.size w w1) (k : Nat) (hk : k < N) => l05At_any A n c k p w1 hn (by omega) ((hr.below b (Nat.le_refl _)).more b.size))
    have hst : Hid (crs p 0 = 0) := rfl
    have hcs := hid (fun k => show crs p (k + 1) = crs p k + (if (nth p k).2 then 1 else 0) from rfl)
    have hN6 : N ≤ 12 := by omega
    generalize crs p = C at *
    clear hr hp hlen hNn
    go_enter Try.func34, Try.ntmps34
    go_wp2_with fail
    refine hV.out.mono ?_
    rintro e w1 ⟨rfl, hb1⟩
    go_wp2
    go_loopw [4, 5] (fun s i wr => Hid (∃ (k : Nat) (x : Int), k ≤ N ∧ i = .int .i64 k ∧ s = .int .i64 x ∧ 0 ≤ x ∧ x ≤ k ∧ Hid (x = C k) ∧ Below w.heap.size w wr)) (fun _ i _ => N - (intOf i).toNat)
    case atStart => exact hid ⟨0, 0, Nat.zero_le _, rfl, rfl, by omega, by omega, hst.out.symm, hb1⟩
    case round =>
      obtain ⟨k, x, hk, rfl, rfl, hx0, hx1, he, hb0⟩ := hrel.out
      have hz := hb0.size
      clear hrel hb1 hst
      by_cases hlt : k < N
      · have hC := hid (hG.out _ hb0 k hlt)
        have hs := hid (hcs.out k)
        generalize nth p k = t at *
        obtain ⟨v, cr⟩ := t
        cases cr
        · have HZ : Hid (x = C (k + 1)) := by show _ = _; rw [hs.out, ← he.out]; simp
          clear he hs
          go_wp2_with fail
          refine hC.out.mono ?_
          rintro e w3 ⟨rfl, hb3⟩
          have hfd := fld_cross v false
          go_wp2
          go_roundw
          case rel => exact hid ⟨k + 1, x, by omega, by go_num, by go_num, by omega, by omega, HZ, (by repeat' (first | exact Below.refl _ _ | (with_reducible assumption) | (with_reducible refine Below.alloc ?_ ?_ _) | (with_reducible refine Below.setCell ?_ ?_ _) | (with_reducible refine Below.drew ?_) | (with_reducible refine below_drewN ?_ _) | (refine Below.trans ?_ (Below.mono (by assumption) ?_)) | (with_reducible exact Nat.le_refl _) | (with_reducible assumption) | (exact Below.size (by assumption)) | omega | go_size | (simp at *; omega)))⟩
          case measure => simp [intOf]; omega
        · have HZ : Hid (x + 1 = C (k + 1)) := by show _ = _; rw [hs.out, ← he.out]; simp
          clear he hs
          go_wp2_with fail
          refine hC.out.mono ?_
          rintro e w3 ⟨rfl, hb3⟩
          have hfd := fld_cross v true
          go_wp2
          go_roundw
          case rel => exact hid ⟨k + 1, x + 1, by omega, by go_num, by go_num, by omega, by omega, HZ, (by repeat' (first | exact Below.refl _ _ | (with_reducible assumption) | (with_reducible refine Below.alloc ?_ ?_ _) | (with_reducible refine Below.setCell ?_ ?_ _) | (with_reducible refine Below.drew ?_) | (with_reducible refine below_drewN ?_ _) | (refine Below.trans ?_ (Below.mono (by assumption) ?_)) | (with_reducible exact Nat.le_refl _) | (with_reducible assumption) | (exact Below.size (by assumption)) | omega | go_size | (simp at *; omega)))⟩
          case measure => simp [intOf]; omega
      · obtain rfl : k = N := by omega
        have HZ : Hid (C k = x) := he.out.symm
        clear he
        go_wp2
        go_ret2
        exact ⟨by rw [HO.out, HZ.out]; first | done | rfl, (by repeat' (first | exact Below.refl _ _ | (with_reducible assumption) | (with_reducible refine Below.alloc ?_ ?_ _) | (with_reducible refine Below.setCell ?_ ?_ _) | (with_reducible refine Below.drew ?_) | (with_reducible refine below_drewN ?_ _) | (refine Below.trans ?_ (Below.mono (by assumption) ?_)) | (with_reducible exact Nat.le_refl _) | (with_reducible assumption) | (exact Below.size (by assumption)) | omega | go_size | (simp at *; omega)))⟩
  | false =>
    rw [hp] at hV
    have hV := hid hV
    have HO : Hid (rCross p = (0, 1)) := by show _ = _; simp [rCross, hp]
    clear hr hp
    go_enter Try.func34, Try.ntmps34
    go_wp2_with fail
    refine hV.out.mono ?_
    rintro e w1 ⟨rfl, hb1⟩
    go_wp2
    go_ret2
    exact ⟨by rw [HO.out]; first | done | rfl, (by repeat' (first | exact Below.refl _ _ | (with_reducible assumption) | (with_reducible refine Below.alloc ?_ ?_ _) | (with_reducible refine Below.setCell ?_ ?_ _) | (with_reducible refine Below.drew ?_) | (with_reducible refine below_drewN ?_ _) | (refine Below.trans ?_ (Below.mono (by assumption) ?_)) | (with_reducible exact Nat.le_refl _) | (with_reducible assumption) | (exact Below.size (by assumption)) | omega | go_size | (simp at *; omega)))⟩
end Go.Proofs.Ytjagejalchfhlaa
