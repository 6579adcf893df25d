/- Contracts of the functions of synchronous patterns: validity, equality, props, crossings, mirror images, stars. -/
import Derived.Test.YtkglkpohbckpcaaYc
import Derived.Test.YtkglkpohbckpcaaAp
namespace Go.Proofs.Ytkglkpohbckpcaa
open Go.RowKit
set_option linter.unusedVariables false

theorem syC_one (p : List Beat) (h : 1 ≤ p.length) : syC p = col2 (syL p) (2 * p.length - 1) 1 := by
  unfold syC
  obtain ⟨n, hn⟩ : ∃ n, 2 * p.length = n + 1 := ⟨2 * p.length - 1, by omega⟩
  rw [hn, col2_none1 rfl]; simp
theorem syOk_code (p : List Beat) : syOk p = ((rSyncClash p).2.2 == 0) := by
  unfold syOk rSyncClash
  cases h : beatsOk p with
  | false => rfl
  | true =>
    simp only [if_true, Bool.true_and]
    cases hc : syC p with
    | none => rfl
    | some x => obtain ⟨a, b⟩ := x; rfl
def clash2 : Option (Nat × Nat) → Int × Int
  | some (i, k) => ((i : Int), (k : Int))
  | none => (-1, -1)
theorem syOk_clash {p : List Beat} (h : beatsOk p = true) : syOk p = decide ((clash2 (syC p)).1 < 0) := by
  unfold syOk
  rw [h, Bool.true_and]
  cases hc : syC p with
  | none => rfl
  | some x => obtain ⟨a, b⟩ := x; exact (decide_eq_false (show ¬ ((a : Int) < 0) by omega)).symm
theorem syOk_b {p : List Beat} (h : syOk p = true) : beatsOk p = true := by unfold syOk at h; rw [Bool.and_eq_true] at h; exact h.1
theorem syOk_bd {p : List Beat} (h : syOk p = true) : 1 ≤ p.length ∧ p.length ≤ 6 := (beatsOk_iff.1 (syOk_b h)).2
/-- What is known of a beat of a list of beats. -/
theorem beat_bd {p : List Beat} (h : beatsOk p = true) {x : Beat} (hx : x ∈ p) : 0 ≤ x.1.1 ∧ x.1.1 ≤ 14 ∧ 0 ≤ x.2.1 ∧ x.2.1 ≤ 14 := by
  have h1 := (beatsOk_iff.1 h).1 x hx
  have h2 := (thrOk_iff.1 h1.1).1
  have h3 := (thrOk_iff.1 h1.2).1
  exact ⟨h2.1, h2.2, h3.1, h3.2⟩
theorem ValidSync_any (A : Option Addr) (n c : Nat) (p : List Beat) (w : World) (hn : n ≤ 1099511627776) (hr : Rd w w.heap.size 4 A n (bts p)) :
    Calls Try.prog 91 #[.slice A n c] w fun e w' => e = .returned (.bool (syOk p)) ∧ Below w.heap.size w w' := by
  have h1 := hid (SyncClash_any A n c p w hn hr)
  rw [syOk_code]
  clear hr
  generalize rSyncClash p = r at *
  obtain ⟨a, b, d⟩ := r
  go_enter Try.func91, Try.ntmps91
  go_wp2_with (go_at_call 175; refine (h1.out).mono ?_; rintro e w1 ⟨rfl, hb1⟩; first | (have hk1 := bchain (by assumption) hb1; obtain ⟨hc1, hf1, hz1, hl1⟩ := bcell hk1) | (obtain ⟨hc1, hf1, hz1, hl1⟩ := bcell hb1))
  go_ret
  exact ⟨rfl, (by repeat' (first | exact Below.refl _ _ | (with_reducible assumption) | (with_reducible refine Below.alloc ?_ ?_ _) | (with_reducible refine Below.setCell ?_ ?_ _) | (with_reducible refine Below.drew ?_) | (with_reducible refine below_drewN ?_ _) | (refine Below.trans ?_ (Below.mono (by assumption) ?_)) | (with_reducible exact Nat.le_refl _) | (with_reducible assumption) | (exact Below.size (by assumption)) | omega | go_size | (simp at *; omega)))⟩
set_option maxHeartbeats 400000 in
theorem l05Clash_any (A : Option Addr) (n c : Nat) (p : List Beat) (w : World) (hp : beatsOk p = true) (hr : Rd w w.heap.size 4 A n (bts p)) :
    Calls Try.prog 215 #[.slice A n c] w fun e w' => e = .returned (.tuple #[.int .i64 (clash2 (syC p)).1, .int .i64 (clash2 (syC p)).2]) ∧ Below w.heap.size w w' := by
  have hlen := hr.bt_len
  have h6 := (beatsOk_iff.1 hp).2.2
  have h1 := (beatsOk_iff.1 hp).2.1
  have hst : Hid (col2 (syL p) (2 * n - 1) 1 = syC p) := by show _ = _; rw [syC_one p h1, hlen]
  rw [hlen] at h6 h1
  have hLd := hid (fun (w1 : World) (b : Below w.heap.size w w1) (k : Nat) (hk : k < 2 * n) => l05Land_any A n c k p w1 hp hk ((hr.below b (Nat.le_refl _)).more b.size))
  obtain ⟨N, hN⟩ : ∃ N : Nat, 2 * (n : Int) = (N : Int) := ⟨2 * n, by omega⟩
  have hNn : N = 2 * n := by omega
  rw [← hNn] at hst
  have hLd := hid (fun (w1 : World) (b : Below w.heap.size w w1) (k : Nat) (hk : k < N) => hLd.out w1 b k (by omega))
  have hN6 : N ≤ 12 := by omega
  have hN1 : 1 ≤ N := by omega
  generalize syL p = L at *
  generalize syC p = C at *
  clear hr hlen hp hNn
  go_enter Try.func215, Try.ntmps215
  go_wp2
  go_loopw [4] (fun i wr => Hid (∃ k : Nat, 1 ≤ k ∧ k ≤ N ∧ i = .int .i64 k ∧ Hid (col2 L (N - k) k = C) ∧ Below w.heap.size w wr)) (fun i _ => N - (intOf i).toNat)
  case atStart => exact hid ⟨1, by omega, by omega, rfl, hst, (by repeat' (first | exact Below.refl _ _ | (with_reducible assumption) | (with_reducible refine Below.alloc ?_ ?_ _) | (with_reducible refine Below.setCell ?_ ?_ _) | (with_reducible refine Below.drew ?_) | (with_reducible refine below_drewN ?_ _) | (refine Below.trans ?_ (Below.mono (by assumption) ?_)) | (with_reducible exact Nat.le_refl _) | (with_reducible assumption) | (exact Below.size (by assumption)) | omega | go_size | (simp at *; omega)))⟩
  case round =>
    obtain ⟨k, hk1, hk, rfl, he, hb0⟩ := hrel.out
    clear hrel hst
    by_cases hlt : k < N
    · obtain ⟨wo, rfl⟩ : ∃ wo : World, wo = wr := ⟨_, rfl⟩
      go_wp2
      clear hN
      go_loopw [5] (fun i w2 => Hid (∃ j : Nat, j ≤ k ∧ i = .int .i64 j ∧ Hid (col1 L k (k - j) j = col1 L k k 0) ∧ Below w.heap.size w w2)) (fun i _ => k - (intOf i).toNat)
      case atStart => exact hid ⟨0, Nat.zero_le _, rfl, rfl, hb0⟩
      case round =>
        obtain ⟨j, hj, rfl, he2, hb2⟩ := hrel.out
        clear hrel hb0
        by_cases hlj : j < k
        · have hkj : k - j = (k - (j + 1)) + 1 := by omega
          have hC1 := hid (hLd.out _ hb2 j (by omega))
          have hC2 := hid (fun (w1 : World) (b : Below w.heap.size w w1) => hLd.out w1 b k hlt)
          obtain ⟨x, hx⟩ : ∃ x, L j = x := ⟨_, rfl⟩
          obtain ⟨y, hy⟩ : ∃ y, L k = y := ⟨_, rfl⟩
          by_cases hxy : L j = L k
          · have HZ : Hid (C = some (j, k)) := by
              show _ = _
              have h3 := he2.out
              rw [hkj] at h3
              have h4 : col1 L k (k - (j + 1) + 1) j = some j := by rw [col1, if_pos hxy]
              rw [h4] at h3
              have h5 := he.out
              have hkk : N - k = (N - (k + 1)) + 1 := by omega
              rw [hkk, col2_some1 h3.symm] at h5
              exact h5.symm
            have hq : (x == y) = true := by rw [← hx, ← hy]; simpa using hxy
            rw [hx] at hC1
            rw [hy] at hC2
            clear he he2 hkj hxy hx hy
            go_wp2_with fail
            refine hC1.out.mono ?_
            rintro e w3 ⟨rfl, hb3⟩
            have hb3 := bchain hb2 hb3
            go_wp2_with fail
            refine (hC2.out _ hb3).mono ?_
            rintro e w4 ⟨rfl, hb4⟩
            have hb4 := bchain hb3 hb4
            go_wp2
            go_ret2
            exact ⟨by rw [HZ.out]; first | done | rfl, (by repeat' (first | exact Below.refl _ _ | (with_reducible assumption) | (with_reducible refine Below.alloc ?_ ?_ _) | (with_reducible refine Below.setCell ?_ ?_ _) | (with_reducible refine Below.drew ?_) | (with_reducible refine below_drewN ?_ _) | (refine Below.trans ?_ (Below.mono (by assumption) ?_)) | (with_reducible exact Nat.le_refl _) | (with_reducible assumption) | (exact Below.size (by assumption)) | omega | go_size | (simp at *; omega)))⟩
          · have HZ : Hid (col1 L k (k - (j + 1)) (j + 1) = col1 L k k 0) := by
              show _ = _
              have h3 := he2.out
              rw [hkj] at h3
              rw [← h3, col1, if_neg hxy]
            have hq : (x == y) = false := by rw [← hx, ← hy]; simpa using hxy
            rw [hx] at hC1
            rw [hy] at hC2
            clear he2 hkj hxy hx hy
            go_wp2_with fail
            refine hC1.out.mono ?_
            rintro e w3 ⟨rfl, hb3⟩
            have hb3 := bchain hb2 hb3
            go_wp2_with fail
            refine (hC2.out _ hb3).mono ?_
            rintro e w4 ⟨rfl, hb4⟩
            have hb4 := bchain hb3 hb4
            go_wp2
            go_roundw
            case rel => exact hid ⟨j + 1, by omega, by go_num, HZ, (by repeat' (first | exact Below.refl _ _ | (with_reducible assumption) | (with_reducible refine Below.alloc ?_ ?_ _) | (with_reducible refine Below.setCell ?_ ?_ _) | (with_reducible refine Below.drew ?_) | (with_reducible refine below_drewN ?_ _) | (refine Below.trans ?_ (Below.mono (by assumption) ?_)) | (with_reducible exact Nat.le_refl _) | (with_reducible assumption) | (exact Below.size (by assumption)) | omega | go_size | (simp at *; omega)))⟩
            case measure => simp [intOf]; omega
        · have HZ : Hid (col2 L (N - (k + 1)) (k + 1) = C) := by
            show _ = _
            have hjk : j = k := by omega
            have h3 := he2.out
            rw [hjk, Nat.sub_self] at h3
            have hkk : N - k = (N - (k + 1)) + 1 := by omega
            rw [← he.out, hkk, col2_none1 h3.symm]
          clear he he2
          go_wp2
          go_roundw
          case rel => exact hid ⟨k + 1, by omega, by omega, by go_num, HZ, (by repeat' (first | exact Below.refl _ _ | (with_reducible assumption) | (with_reducible refine Below.alloc ?_ ?_ _) | (with_reducible refine Below.setCell ?_ ?_ _) | (with_reducible refine Below.drew ?_) | (with_reducible refine below_drewN ?_ _) | (refine Below.trans ?_ (Below.mono (by assumption) ?_)) | (with_reducible exact Nat.le_refl _) | (with_reducible assumption) | (exact Below.size (by assumption)) | omega | go_size | (simp at *; omega)))⟩
          case measure => simp [intOf]; omega
    · have HZ : Hid (C = none) := by
        show _ = _
        have h5 := he.out
        have hkn : N - k = 0 := by omega
        rw [hkn] at h5
        exact h5.symm
      clear he
      go_wp2
      go_ret2
      exact ⟨by rw [HZ.out]; first | done | rfl, hb0⟩
theorem l05Ok_any (A : Option Addr) (n c : Nat) (p : List Beat) (w : World) (hn : n ≤ 1099511627776) (hr : Rd w w.heap.size 4 A n (bts p)) :
    Calls Try.prog 171 #[.slice A n c] w fun e w' => e = .returned (.bool (syOk p)) ∧ Below w.heap.size w w' := by
  have hL := l05List_any A n c p w hn hr
  cases hp : beatsOk p with
  | true =>
    rw [hp] at hL
    have hL := hid hL
    have hC := hid (fun (w1 : World) (b : Below w.heap.size w w1) => l05Clash_any A n c p w1 hp ((hr.below b (Nat.le_refl _)).more b.size))
    have HO := hid (syOk_clash hp)
    generalize clash2 (syC p) = r at *
    obtain ⟨r1, r2⟩ := r
    clear hr hp
    go_enter Try.func171, Try.ntmps171
    go_wp2_with fail
    refine hL.out.mono ?_
    rintro e w1 ⟨rfl, hb1⟩
    go_wp2_with fail
    refine (hC.out w1 hb1).mono ?_
    rintro e w2 ⟨rfl, hb2⟩
    go_wp2
    go_ret
    exact ⟨ret_bool HO.out.symm, (by repeat' (first | exact Below.refl _ _ | (with_reducible assumption) | (with_reducible refine Below.alloc ?_ ?_ _) | (with_reducible refine Below.setCell ?_ ?_ _) | (with_reducible refine Below.drew ?_) | (with_reducible refine below_drewN ?_ _) | (refine Below.trans ?_ (Below.mono (by assumption) ?_)) | (with_reducible exact Nat.le_refl _) | (with_reducible assumption) | (exact Below.size (by assumption)) | omega | go_size | (simp at *; omega)))⟩
  | false =>
    rw [hp] at hL
    have hL := hid hL
    have HO : Hid (syOk p = false) := by show _ = _; simp [syOk, hp]
    clear hr hp
    go_enter Try.func171, Try.ntmps171
    go_wp2_with fail
    refine hL.out.mono ?_
    rintro e w1 ⟨rfl, hb1⟩
    go_wp2
    go_ret
    exact ⟨ret_bool HO.out.symm, (by repeat' (first | exact Below.refl _ _ | (with_reducible assumption) | (with_reducible refine Below.alloc ?_ ?_ _) | (with_reducible refine Below.setCell ?_ ?_ _) | (with_reducible refine Below.drew ?_) | (with_reducible refine below_drewN ?_ _) | (refine Below.trans ?_ (Below.mono (by assumption) ?_)) | (with_reducible exact Nat.le_refl _) | (with_reducible assumption) | (exact Below.size (by assumption)) | omega | go_size | (simp at *; omega)))⟩
end Go.Proofs.Ytkglkpohbckpcaa
