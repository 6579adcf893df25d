/- Contracts of the functions of synchronous patterns: equality, props, crossings. -/
import Derived.Test.YtkglkpohbckpcaaYd
namespace Go.Proofs.Ytkglkpohbckpcaa
open Go.RowKit
set_option linter.unusedVariables false

theorem beat_ne {x1 x3 y1 y3 : Int} {x2 x4 y2 y4 : Bool} (h : ¬ (((x1, x2), (x3, x4)) : Beat) = ((y1, y2), (y3, y4))) : x1 ≠ y1 ∨ (x1 = y1 ∧ x2 ≠ y2) ∨ (x1 = y1 ∧ x2 = y2 ∧ x3 ≠ y3) ∨ (x1 = y1 ∧ x2 = y2 ∧ x3 = y3 ∧ x4 ≠ y4) := by
  by_cases h1 : x1 = y1
  · by_cases h2 : x2 = y2
    · by_cases h3 : x3 = y3
      · exact .inr (.inr (.inr ⟨h1, h2, h3, fun h4 => h (by subst h1 h2 h3 h4; rfl)⟩))
      · exact .inr (.inr (.inl ⟨h1, h2, h3⟩))
    · exact .inr (.inl ⟨h1, h2⟩)
  · exact .inl h1
/-- How many of the throws below a number cross. -/
def crs (p : List Beat) : Nat → Int
  | 0 => 0
  | k + 1 => crs p k + (if (nth p k).2 then 1 else 0)
def rCross (p : List Beat) : Int × Int := if syOk p then (crs p (2 * p.length), 0) else (0, 1)
theorem SyncProps_any (A : Option Addr) (n c : Nat) (p : List Beat) (w : World) (hn : n ≤ 1099511627776) (hr : Rd w w.heap.size 4 A n (bts p)) :
    Calls Try.prog 100 #[.slice A n c] w fun e w' => e = .returned (.tuple #[.int .i64 (rSyncProps p).1, .int .i64 (rSyncProps p).2]) ∧ Below w.heap.size w w' := by
  have hlen := hr.bt_len
  have hV := ValidSync_any A n c p w hn hr
  cases hp : syOk p with
  | true =>
    rw [hp] at hV
    have hV := hid hV
    have hbd := hid (fun x (hx : x ∈ p) => beat_bd (syOk_b hp) hx)
    obtain ⟨h1, h6⟩ := syOk_bd hp
    rw [hlen] at h1 h6
    have HO : Hid (rSyncProps p = (sumB p / (2 * (n : Int)), 0)) := by show _ = _; simp [rSyncProps, hp, syPr, hlen]
    have hst : Hid (0 + sumB (p.drop 0) = sumB p) := by show _ = _; simp
    obtain ⟨S, hS⟩ : ∃ S, sumB p = S := ⟨_, rfl⟩
    rw [hS] at HO hst
    have HR := hid hr
    have HL := hid hlen
    obtain ⟨D, hD⟩ : ∃ D : Int, 2 * (n : Int) = D := ⟨_, rfl⟩
    rw [hD] at HO
    have hD1 : 2 ≤ D := by omega
    have hD2 : D ≤ 12 := by omega
    have HD := hid hD
    clear hr hp hlen hS hD
    go_enter Try.func100, Try.ntmps100
    go_wp2_with fail
    refine hV.out.mono ?_
    rintro e w1 ⟨rfl, hb1⟩
    go_wp2
    go_loopw [4, 12] (fun s i wr => Hid (∃ (k : Nat) (x : Int), k ≤ n ∧ i = .int .i64 k ∧ s = .int .i64 x ∧ 0 ≤ x ∧ x ≤ 28 * k ∧ Hid (x + sumB (p.drop k) = S) ∧ Below w.heap.size w wr)) (fun _ i _ => n - (intOf i).toNat)
    case atStart => exact hid ⟨0, 0, Nat.zero_le _, rfl, rfl, by omega, by omega, hst, hb1⟩
    case round =>
      obtain ⟨k, x, hk, rfl, rfl, hx0, hx1, he, hb0⟩ := hrel.out
      have hz := hb0.size
      clear hrel hb1 hst
      by_cases hlt : k < n
      · obtain ⟨b, off, y, rfl, hb, hy, hd, c0, c1, c2, c3⟩ := (HR.out.below hb0 (Nat.le_refl _)).bt_at hlt
        obtain ⟨y0, y1, z0, z1⟩ := hbd.out y (List.mem_of_getElem? hy)
        obtain ⟨⟨q1, q2⟩, ⟨q3, q4⟩⟩ := y
        have HZ : Hid (x + (q1 + q3) + sumB (p.drop (k + 1)) = S) := by
          show _ = _
          have h := he.out
          rw [hd, show sumB (((q1, q2), (q3, q4)) :: p.drop (k + 1)) = q1 + q3 + sumB (p.drop (k + 1)) from rfl] at h
          omega
        simp only at y0 y1 z0 z1
        clear he hy hd
        have hbw : b < wr.heap.size := by omega
        go_wp2
        go_roundw
        case rel => exact hid ⟨k + 1, x + (q1 + q3), by omega, by go_num, by go_num, by omega, by omega, HZ, (by repeat' (first | exact Below.refl _ _ | (with_reducible assumption) | (with_reducible refine Below.alloc ?_ ?_ _) | (with_reducible refine Below.setCell ?_ ?_ _) | (with_reducible refine Below.drew ?_) | (with_reducible refine below_drewN ?_ _) | (refine Below.trans ?_ (Below.mono (by assumption) ?_)) | (with_reducible exact Nat.le_refl _) | (with_reducible assumption) | (exact Below.size (by assumption)) | omega | go_size | (simp at *; omega)))⟩
        case measure => simp [intOf]; omega
      · have HZ : Hid (x = S) := by
          show _ = _
          have h := he.out
          rw [List.drop_eq_nil_of_le (by rw [HL.out]; omega)] at h
          simp only [sumB, Int.add_zero] at h
          exact h
        clear he
        have hD := HD.out
        go_wp2
        go_ret2
        exact ⟨by rw [HO.out, ← HZ.out]; first | done | rfl, (by repeat' (first | exact Below.refl _ _ | (with_reducible assumption) | (with_reducible refine Below.alloc ?_ ?_ _) | (with_reducible refine Below.setCell ?_ ?_ _) | (with_reducible refine Below.drew ?_) | (with_reducible refine below_drewN ?_ _) | (refine Below.trans ?_ (Below.mono (by assumption) ?_)) | (with_reducible exact Nat.le_refl _) | (with_reducible assumption) | (exact Below.size (by assumption)) | omega | go_size | (simp at *; omega)))⟩
  | false =>
    rw [hp] at hV
    have hV := hid hV
    have HO : Hid (rSyncProps p = (0, 1)) := by show _ = _; simp [rSyncProps, hp]
    clear hr hp
    go_enter Try.func100, Try.ntmps100
    go_wp2_with fail
    refine hV.out.mono ?_
    rintro e w1 ⟨rfl, hb1⟩
    go_wp2
    go_ret2
    exact ⟨by rw [HO.out]; first | done | rfl, (by repeat' (first | exact Below.refl _ _ | (with_reducible assumption) | (with_reducible refine Below.alloc ?_ ?_ _) | (with_reducible refine Below.setCell ?_ ?_ _) | (with_reducible refine Below.drew ?_) | (with_reducible refine below_drewN ?_ _) | (refine Below.trans ?_ (Below.mono (by assumption) ?_)) | (with_reducible exact Nat.le_refl _) | (with_reducible assumption) | (exact Below.size (by assumption)) | omega | go_size | (simp at *; omega)))⟩
theorem specSyncProps_any (A : Option Addr) (n c : Nat) (p : List Beat) (w : World) (hn : n ≤ 1099511627776) (hr : Rd w w.heap.size 4 A n (bts p)) :
    Calls Try.prog 98 #[.slice A n c] w fun e w' => e = .returned (.tuple #[.int .i64 (rSyncProps p).1, .int .i64 (rSyncProps p).2]) ∧ Below w.heap.size w w' := by
  have hlen := hr.bt_len
  have hV := l05Ok_any A n c p w hn hr
  cases hp : syOk p with
  | true =>
    rw [hp] at hV
    have hV := hid hV
    have hbd := hid (fun x (hx : x ∈ p) => beat_bd (syOk_b hp) hx)
    obtain ⟨h1, h6⟩ := syOk_bd hp
    rw [hlen] at h1 h6
    have HO : Hid (rSyncProps p = (sumB p / (2 * (n : Int)), 0)) := by show _ = _; simp [rSyncProps, hp, syPr, hlen]
    have hst : Hid (0 + sumB (p.drop 0) = sumB p) := by show _ = _; simp
    obtain ⟨S, hS⟩ : ∃ S, sumB p = S := ⟨_, rfl⟩
    rw [hS] at HO hst
    have HR := hid hr
    have HL := hid hlen
    obtain ⟨D, hD⟩ : ∃ D : Int, 2 * (n : Int) = D := ⟨_, rfl⟩
    rw [hD] at HO
    have hD1 : 2 ≤ D := by omega
    have hD2 : D ≤ 12 := by omega
    have HD := hid hD
    clear hr hp hlen hS hD
    go_enter Try.func98, Try.ntmps98
    go_wp2_with fail
    refine hV.out.mono ?_
    rintro e w1 ⟨rfl, hb1⟩
    go_wp2
    go_loopw [4, 5] (fun s i wr => Hid (∃ (k : Nat) (x : Int), k ≤ n ∧ i = .int .i64 k ∧ s = .int .i64 x ∧ 0 ≤ x ∧ x ≤ 28 * k ∧ Hid (x + sumB (p.drop k) = S) ∧ Below w.heap.size w wr)) (fun _ i _ => n - (intOf i).toNat)
    case atStart => exact hid ⟨0, 0, Nat.zero_le _, rfl, rfl, by omega, by omega, hst, hb1⟩
    case round =>
      obtain ⟨k, x, hk, rfl, rfl, hx0, hx1, he, hb0⟩ := hrel.out
      have hz := hb0.size
      clear hrel hb1 hst
      by_cases hlt : k < n
      · obtain ⟨b, off, y, rfl, hb, hy, hd, c0, c1, c2, c3⟩ := (HR.out.below hb0 (Nat.le_refl _)).bt_at hlt
        obtain ⟨y0, y1, z0, z1⟩ := hbd.out y (List.mem_of_getElem? hy)
        obtain ⟨⟨q1, q2⟩, ⟨q3, q4⟩⟩ := y
        have HZ : Hid (x + (q1 + q3) + sumB (p.drop (k + 1)) = S) := by
          show _ = _
          have h := he.out
          rw [hd, show sumB (((q1, q2), (q3, q4)) :: p.drop (k + 1)) = q1 + q3 + sumB (p.drop (k + 1)) from rfl] at h
          omega
        simp only at y0 y1 z0 z1
        clear he hy hd
        have hbw : b < wr.heap.size := by omega
        go_wp2
        go_quiet (fail)
        go_wp2
        go_roundw
        case rel => exact hid ⟨k + 1, x + (q1 + q3), by omega, by go_num, by go_num, by omega, by omega, HZ, (by repeat' (first | exact Below.refl _ _ | (with_reducible assumption) | (with_reducible refine Below.alloc ?_ ?_ _) | (with_reducible refine Below.setCell ?_ ?_ _) | (with_reducible refine Below.drew ?_) | (with_reducible refine below_drewN ?_ _) | (refine Below.trans ?_ (Below.mono (by assumption) ?_)) | (with_reducible exact Nat.le_refl _) | (with_reducible assumption) | (exact Below.size (by assumption)) | omega | go_size | (simp at *; omega)))⟩
        case measure => simp [intOf]; omega
      · have HZ : Hid (x = S) := by
          show _ = _
          have h := he.out
          rw [List.drop_eq_nil_of_le (by rw [HL.out]; omega)] at h
          simp only [sumB, Int.add_zero] at h
          exact h
        clear he
        have hD := HD.out
        go_wp2
        go_ret2
        exact ⟨by rw [HO.out, ← HZ.out]; first | done | rfl, (by repeat' (first | exact Below.refl _ _ | (with_reducible assumption) | (with_reducible refine Below.alloc ?_ ?_ _) | (with_reducible refine Below.setCell ?_ ?_ _) | (with_reducible refine Below.drew ?_) | (with_reducible refine below_drewN ?_ _) | (refine Below.trans ?_ (Below.mono (by assumption) ?_)) | (with_reducible exact Nat.le_refl _) | (with_reducible assumption) | (exact Below.size (by assumption)) | omega | go_size | (simp at *; omega)))⟩
  | false =>
    rw [hp] at hV
    have hV := hid hV
    have HO : Hid (rSyncProps p = (0, 1)) := by show _ = _; simp [rSyncProps, hp]
    clear hr hp
    go_enter Try.func98, Try.ntmps98
    go_wp2_with fail
    refine hV.out.mono ?_
    rintro e w1 ⟨rfl, hb1⟩
    go_wp2
    go_ret2
    exact ⟨by rw [HO.out]; first | done | rfl, (by repeat' (first | exact Below.refl _ _ | (with_reducible assumption) | (with_reducible refine Below.alloc ?_ ?_ _) | (with_reducible refine Below.setCell ?_ ?_ _) | (with_reducible refine Below.drew ?_) | (with_reducible refine below_drewN ?_ _) | (refine Below.trans ?_ (Below.mono (by assumption) ?_)) | (with_reducible exact Nat.le_refl _) | (with_reducible assumption) | (exact Below.size (by assumption)) | omega | go_size | (simp at *; omega)))⟩
end Go.Proofs.Ytkglkpohbckpcaa
