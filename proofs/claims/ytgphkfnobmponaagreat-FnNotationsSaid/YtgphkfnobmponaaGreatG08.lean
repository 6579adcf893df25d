/- Several texts in one: Yc, Gl. -/
import Derived.Test.YtgphkfnobmponaaGreatG02
import Derived.Test.YtgphkfnobmponaaGreatG06
import Derived.StillTailTactics
import Derived.BigRegion
import Derived.Deep.QuietTactic
import Derived.BigQuiet
/- Contracts of the functions that check synchronous patterns. -/
namespace Go.Proofs.YtgphkfnobmponaaGreat
open Go.RowKit
set_option linter.unusedVariables false

theorem isSyncThrow_any (x : Int) (c : Bool) (w : World) :
    Calls Tryz.prog 136 #[.agg #[.int .i64 x, .bool c]] w fun e w' => e = .returned (.bool (thrOk (x, c))) ∧ Below w.heap.size w w' := by
  have hs : Hid (thrOk (x, c) = (betweenB x 0 14 && (x % 2 == 0) && (decide (0 < x) || !c))) := rfl
  by_cases hb : betweenB x 0 14 = true
  · obtain ⟨b1, b2⟩ := (betweenB_iff _ _ _).1 hb
    by_cases h2 : x % 2 = 0
    · by_cases h3 : 0 < x
      · have hs2 : Hid (thrOk (x, c) = true) := by show _ = _; rw [hs.out, hb]; simp [h2, h3]
        clear hs
        go_enter Tryz.func136, Tryz.ntmps136
        go_wp2_with (go_at_call 55; refine (between_any _ _ _ _).mono ?_; rintro e w' ⟨rfl, rfl⟩)
        go_ret
        exact ⟨ret_bool hs2.out.symm, (by repeat' (first | exact Below.refl _ _ | (with_reducible first | assumption | exact Nat.le_refl _ | refine Below.alloc ?_ ?_ _ | refine Below.setCell ?_ ?_ _ | refine Below.drew ?_ | refine below_drewN ?_ _) | refine Below.trans ?_ (Below.mono (by assumption) ?_) | exact Below.size (by assumption) | omega | go_size | (simp at *; omega)))⟩
      · have hs2 : Hid (thrOk (x, c) = (decide (0 < x) || !c)) := by show _ = _; rw [hs.out, hb]; simp [h2]
        clear hs
        go_enter Tryz.func136, Tryz.ntmps136
        go_wp2_with (go_at_call 55; refine (between_any _ _ _ _).mono ?_; rintro e w' ⟨rfl, rfl⟩)
        go_ret
        exact ⟨ret_bool hs2.out.symm, (by repeat' (first | exact Below.refl _ _ | (with_reducible first | assumption | exact Nat.le_refl _ | refine Below.alloc ?_ ?_ _ | refine Below.setCell ?_ ?_ _ | refine Below.drew ?_ | refine below_drewN ?_ _) | refine Below.trans ?_ (Below.mono (by assumption) ?_) | exact Below.size (by assumption) | omega | go_size | (simp at *; omega)))⟩
    · have hs2 : Hid (thrOk (x, c) = false) := by show _ = _; rw [hs.out, hb]; simp [h2]
      clear hs
      go_enter Tryz.func136, Tryz.ntmps136
      go_wp2_with (go_at_call 55; refine (between_any _ _ _ _).mono ?_; rintro e w' ⟨rfl, rfl⟩)
      go_ret
      exact ⟨ret_bool hs2.out.symm, (by repeat' (first | exact Below.refl _ _ | (with_reducible first | assumption | exact Nat.le_refl _ | refine Below.alloc ?_ ?_ _ | refine Below.setCell ?_ ?_ _ | refine Below.drew ?_ | refine below_drewN ?_ _) | refine Below.trans ?_ (Below.mono (by assumption) ?_) | exact Below.size (by assumption) | omega | go_size | (simp at *; omega)))⟩
  · have hb : betweenB x 0 14 = false := by simpa using hb
    have hs2 : Hid (thrOk (x, c) = false) := by show _ = _; rw [hs.out, hb]; rfl
    clear hs
    go_enter Tryz.func136, Tryz.ntmps136
    go_wp2_with (go_at_call 55; refine (between_any _ _ _ _).mono ?_; rintro e w' ⟨rfl, rfl⟩)
    go_ret
    exact ⟨ret_bool hs2.out.symm, (by repeat' (first | exact Below.refl _ _ | (with_reducible first | assumption | exact Nat.le_refl _ | refine Below.alloc ?_ ?_ _ | refine Below.setCell ?_ ?_ _ | refine Below.drew ?_ | refine below_drewN ?_ _) | refine Below.trans ?_ (Below.mono (by assumption) ?_) | exact Below.size (by assumption) | omega | go_size | (simp at *; omega)))⟩
theorem l05Throw_any (x : Int) (c : Bool) (w : World) :
    Calls Tryz.prog 137 #[.agg #[.int .i64 x, .bool c]] w fun e w' => e = .returned (.bool (thrOk (x, c))) ∧ Below w.heap.size w w' := by
  have hs : Hid (thrOk (x, c) = (betweenB x 0 14 && (x % 2 == 0) && (decide (0 < x) || !c))) := rfl
  by_cases hb : betweenB x 0 14 = true
  · obtain ⟨b1, b2⟩ := (betweenB_iff _ _ _).1 hb
    by_cases h2 : x % 2 = 0
    · by_cases h3 : 0 < x
      · have hs2 : Hid (thrOk (x, c) = true) := by show _ = _; rw [hs.out, hb]; simp [h2, h3]
        clear hs
        go_enter Tryz.func137, Tryz.ntmps137
        go_wp2_with (go_at_call 54; refine (l00In_any _ _ _ _).mono ?_; rintro e w' ⟨rfl, rfl⟩)
        go_ret
        exact ⟨ret_bool hs2.out.symm, (by repeat' (first | exact Below.refl _ _ | (with_reducible first | assumption | exact Nat.le_refl _ | refine Below.alloc ?_ ?_ _ | refine Below.setCell ?_ ?_ _ | refine Below.drew ?_ | refine below_drewN ?_ _) | refine Below.trans ?_ (Below.mono (by assumption) ?_) | exact Below.size (by assumption) | omega | go_size | (simp at *; omega)))⟩
      · have hs2 : Hid (thrOk (x, c) = (decide (0 < x) || !c)) := by show _ = _; rw [hs.out, hb]; simp [h2]
        clear hs
        go_enter Tryz.func137, Tryz.ntmps137
        go_wp2_with (go_at_call 54; refine (l00In_any _ _ _ _).mono ?_; rintro e w' ⟨rfl, rfl⟩)
        go_ret
        exact ⟨ret_bool hs2.out.symm, (by repeat' (first | exact Below.refl _ _ | (with_reducible first | assumption | exact Nat.le_refl _ | refine Below.alloc ?_ ?_ _ | refine Below.setCell ?_ ?_ _ | refine Below.drew ?_ | refine below_drewN ?_ _) | refine Below.trans ?_ (Below.mono (by assumption) ?_) | exact Below.size (by assumption) | omega | go_size | (simp at *; omega)))⟩
    · have hs2 : Hid (thrOk (x, c) = false) := by show _ = _; rw [hs.out, hb]; simp [h2]
      clear hs
      go_enter Tryz.func137, Tryz.ntmps137
      go_wp2_with (go_at_call 54; refine (l00In_any _ _ _ _).mono ?_; rintro e w' ⟨rfl, rfl⟩)
      go_ret
      exact ⟨ret_bool hs2.out.symm, (by repeat' (first | exact Below.refl _ _ | (with_reducible first | assumption | exact Nat.le_refl _ | refine Below.alloc ?_ ?_ _ | refine Below.setCell ?_ ?_ _ | refine Below.drew ?_ | refine below_drewN ?_ _) | refine Below.trans ?_ (Below.mono (by assumption) ?_) | exact Below.size (by assumption) | omega | go_size | (simp at *; omega)))⟩
  · have hb : betweenB x 0 14 = false := by simpa using hb
    have hs2 : Hid (thrOk (x, c) = false) := by show _ = _; rw [hs.out, hb]; rfl
    clear hs
    go_enter Tryz.func137, Tryz.ntmps137
    go_wp2_with (go_at_call 54; refine (l00In_any _ _ _ _).mono ?_; rintro e w' ⟨rfl, rfl⟩)
    go_ret
    exact ⟨ret_bool hs2.out.symm, (by repeat' (first | exact Below.refl _ _ | (with_reducible first | assumption | exact Nat.le_refl _ | refine Below.alloc ?_ ?_ _ | refine Below.setCell ?_ ?_ _ | refine Below.drew ?_ | refine below_drewN ?_ _) | refine Below.trans ?_ (Below.mono (by assumption) ?_) | exact Below.size (by assumption) | omega | go_size | (simp at *; omega)))⟩
theorem allb_step {p : List Beat} {i : Nat} {x : Beat} {R : Bool} (h : (p.drop i).all btOk = R) (hd : p.drop i = x :: p.drop (i + 1)) (hx : btOk x = true) : (p.drop (i + 1)).all btOk = R := by
  rw [hd] at h; simpa [hx] using h
theorem allb_stop {p : List Beat} {i : Nat} {x : Beat} {R : Bool} (h : (p.drop i).all btOk = R) (hd : p.drop i = x :: p.drop (i + 1)) (hx : btOk x = false) : R = false := by
  rw [hd] at h; simpa [hx] using h.symm
theorem areSyncBeats_any (A : Option Addr) (n c : Nat) (p : List Beat) (w : World) (hn : n ≤ 1099511627776) (hr : Rd w w.heap.size 4 A n (bts p)) :
    Calls Tryz.prog 106 #[.slice A n c] w fun e w' => e = .returned (.bool (beatsOk p)) ∧ Below w.heap.size w w' := by
  have hlen := hr.bt_len
  obtain ⟨R, hR⟩ : ∃ R, (p.drop 0).all btOk = R := ⟨_, rfl⟩
  have hR := hid hR
  have hth : Hid (beatsOk p = (R && betweenB (n : Int) 1 6)) := by show _ = _; rw [← hR.out, beatsOk, hlen]; simp
  have HR := hid hr
  have HL := hid hlen
  clear hr hlen
  go_enter Tryz.func106, Tryz.ntmps106
  go_wp2
  go_loopw [7] (fun i wr => Hid (∃ k : Nat, k ≤ n ∧ i = .int .i64 k ∧ Hid ((p.drop k).all btOk = R) ∧ Below w.heap.size w wr)) (fun i _ => n - (intOf i).toNat)
  case atStart => exact hid ⟨0, Nat.zero_le _, rfl, hR, (by repeat' (first | exact Below.refl _ _ | (with_reducible first | assumption | exact Nat.le_refl _ | refine Below.alloc ?_ ?_ _ | refine Below.setCell ?_ ?_ _ | refine Below.drew ?_ | refine below_drewN ?_ _) | refine Below.trans ?_ (Below.mono (by assumption) ?_) | exact Below.size (by assumption) | omega | go_size | (simp at *; omega)))⟩
  case round =>
    obtain ⟨k, hk, rfl, he, hb0⟩ := hrel.out
    have hz := hb0.size
    clear hrel
    by_cases hlt : k < n
    · obtain ⟨b, off, x, rfl, hb, hx, hd, c0, c1, c2, c3⟩ := (HR.out.below hb0 (Nat.le_refl _)).bt_at hlt
      obtain ⟨⟨x1, x2⟩, ⟨x3, x4⟩⟩ := x
      have hbw : b < wr.heap.size := by omega
      have hbt : Hid (btOk ((x1, x2), (x3, x4)) = (thrOk (x1, x2) && thrOk (x3, x4))) := rfl
      have hT1 := hid (fun w1 => isSyncThrow_any x1 x2 w1)
      have hT2 := hid (fun w1 => isSyncThrow_any x3 x4 w1)
      have HS := hid (fun h => allb_step he.out hd (x := ((x1, x2), (x3, x4))) h)
      have HF := hid (fun h => allb_stop he.out hd (x := ((x1, x2), (x3, x4))) h)
      cases h1 : thrOk (x1, x2) with
      | false =>
        have HZ : Hid (beatsOk p = false) := by show _ = _; rw [hth.out, HF.out (by rw [hbt.out, h1]; rfl)]; rfl
        have hT1 := hid (fun w1 => by have := hT1.out w1; rw [h1] at this; exact this)
        clear he hR hth hx hd hb hT2 HS HF hbt h1
        go_wp2_with (go_at_call 136; refine (hT1.out _).mono ?_; rintro e w1 ⟨rfl, hb1⟩; first | (have hk1 := bchain (by assumption) hb1; obtain ⟨hc1, hf1, hz1, hl1⟩ := bcell hk1) | (obtain ⟨hc1, hf1, hz1, hl1⟩ := bcell hb1))
        go_ret
        exact ⟨ret_bool HZ.out.symm, (by repeat' (first | exact Below.refl _ _ | (with_reducible first | assumption | exact Nat.le_refl _ | refine Below.alloc ?_ ?_ _ | refine Below.setCell ?_ ?_ _ | refine Below.drew ?_ | refine below_drewN ?_ _) | refine Below.trans ?_ (Below.mono (by assumption) ?_) | exact Below.size (by assumption) | omega | go_size | (simp at *; omega)))⟩
      | true =>
        have hT1 := hid (fun w1 => by have := hT1.out w1; rw [h1] at this; exact this)
        cases h2 : thrOk (x3, x4) with
        | false =>
          have HZ : Hid (beatsOk p = false) := by show _ = _; rw [hth.out, HF.out (by rw [hbt.out, h1, h2]; rfl)]; rfl
          have hT2 := hid (fun w1 => by have := hT2.out w1; rw [h2] at this; exact this)
          clear he hR hth hx hd hb HS HF hbt h1 h2
          go_wp2_with fail
          refine (hT1.out _).mono ?_
          rintro e w1 ⟨rfl, hb1⟩
          obtain ⟨hc1, hf1, hz1, hl1⟩ := bcell hb1
          go_wp2_with fail
          refine (hT2.out _).mono ?_
          rintro e w2 ⟨rfl, hb2⟩
          go_wp2
          go_ret
          exact ⟨ret_bool HZ.out.symm, (by repeat' (first | exact Below.refl _ _ | (with_reducible first | assumption | exact Nat.le_refl _ | refine Below.alloc ?_ ?_ _ | refine Below.setCell ?_ ?_ _ | refine Below.drew ?_ | refine below_drewN ?_ _) | refine Below.trans ?_ (Below.mono (by assumption) ?_) | exact Below.size (by assumption) | omega | go_size | (simp at *; omega)))⟩
        | true =>
          have HZ : Hid ((p.drop (k + 1)).all btOk = R) := by show _ = _; exact HS.out (by rw [hbt.out, h1, h2]; rfl)
          have hT2 := hid (fun w1 => by have := hT2.out w1; rw [h2] at this; exact this)
          clear he hR hth hx hd hb HS HF hbt h1 h2
          go_wp2_with fail
          refine (hT1.out _).mono ?_
          rintro e w1 ⟨rfl, hb1⟩
          obtain ⟨hc1, hf1, hz1, hl1⟩ := bcell hb1
          go_wp2_with fail
          refine (hT2.out _).mono ?_
          rintro e w2 ⟨rfl, hb2⟩
          go_wp2
          go_roundw
          case rel => exact hid ⟨k + 1, by omega, by go_num, HZ, (by repeat' (first | exact Below.refl _ _ | (with_reducible first | assumption | exact Nat.le_refl _ | refine Below.alloc ?_ ?_ _ | refine Below.setCell ?_ ?_ _ | refine Below.drew ?_ | refine below_drewN ?_ _) | refine Below.trans ?_ (Below.mono (by assumption) ?_) | exact Below.size (by assumption) | omega | go_size | (simp at *; omega)))⟩
          case measure => simp [intOf]; omega
    · have hkn : k = n := by omega
      have HZ : Hid (beatsOk p = betweenB (n : Int) 1 6) := by
        show _ = _
        have := he.out
        rw [List.drop_eq_nil_of_le (by rw [HL.out]; omega)] at this
        rw [hth.out, ← this]; rfl
      clear he hR hth hkn
      go_wp2_with (go_at_call 55; refine (between_any _ _ _ _).mono ?_; rintro e w' ⟨rfl, rfl⟩)
      go_ret
      exact ⟨ret_bool HZ.out.symm, (by repeat' (first | exact Below.refl _ _ | (with_reducible first | assumption | exact Nat.le_refl _ | refine Below.alloc ?_ ?_ _ | refine Below.setCell ?_ ?_ _ | refine Below.drew ?_ | refine below_drewN ?_ _) | refine Below.trans ?_ (Below.mono (by assumption) ?_) | exact Below.size (by assumption) | omega | go_size | (simp at *; omega)))⟩
theorem l05List_any (A : Option Addr) (n c : Nat) (p : List Beat) (w : World) (hn : n ≤ 1099511627776) (hr : Rd w w.heap.size 4 A n (bts p)) :
    Calls Tryz.prog 118 #[.slice A n c] w fun e w' => e = .returned (.bool (beatsOk p)) ∧ Below w.heap.size w w' := by
  have hlen := hr.bt_len
  obtain ⟨R, hR⟩ : ∃ R, (p.drop 0).all btOk = R := ⟨_, rfl⟩
  have hR := hid hR
  have hth : Hid (beatsOk p = (R && betweenB (n : Int) 1 6)) := by show _ = _; rw [← hR.out, beatsOk, hlen]; simp
  have HR := hid hr
  have HL := hid hlen
  clear hr hlen
  go_enter Tryz.func118, Tryz.ntmps118
  go_wp2
  go_loopw [3] (fun i wr => Hid (∃ k : Nat, k ≤ n ∧ i = .int .i64 k ∧ Hid ((p.drop k).all btOk = R) ∧ Below w.heap.size w wr)) (fun i _ => n - (intOf i).toNat)
  case atStart => exact hid ⟨0, Nat.zero_le _, rfl, hR, (by repeat' (first | exact Below.refl _ _ | (with_reducible first | assumption | exact Nat.le_refl _ | refine Below.alloc ?_ ?_ _ | refine Below.setCell ?_ ?_ _ | refine Below.drew ?_ | refine below_drewN ?_ _) | refine Below.trans ?_ (Below.mono (by assumption) ?_) | exact Below.size (by assumption) | omega | go_size | (simp at *; omega)))⟩
  case round =>
    obtain ⟨k, hk, rfl, he, hb0⟩ := hrel.out
    have hz := hb0.size
    clear hrel
    by_cases hlt : k < n
    · obtain ⟨b, off, x, rfl, hb, hx, hd, c0, c1, c2, c3⟩ := (HR.out.below hb0 (Nat.le_refl _)).bt_at hlt
      obtain ⟨⟨x1, x2⟩, ⟨x3, x4⟩⟩ := x
      have hbw : b < wr.heap.size := by omega
      have hbt : Hid (btOk ((x1, x2), (x3, x4)) = (thrOk (x1, x2) && thrOk (x3, x4))) := rfl
      have hT1 := hid (fun w1 => l05Throw_any x1 x2 w1)
      have hT2 := hid (fun w1 => l05Throw_any x3 x4 w1)
      have HS := hid (fun h => allb_step he.out hd (x := ((x1, x2), (x3, x4))) h)
      have HF := hid (fun h => allb_stop he.out hd (x := ((x1, x2), (x3, x4))) h)
      cases h1 : thrOk (x1, x2) with
      | false =>
        have HZ : Hid (beatsOk p = false) := by show _ = _; rw [hth.out, HF.out (by rw [hbt.out, h1]; rfl)]; rfl
        have hT1 := hid (fun w1 => by have := hT1.out w1; rw [h1] at this; exact this)
        clear he hR hth hx hd hb hT2 HS HF hbt h1
        go_wp2_with (go_at_call 137; refine (hT1.out _).mono ?_; rintro e w1 ⟨rfl, hb1⟩; first | (have hk1 := bchain (by assumption) hb1; obtain ⟨hc1, hf1, hz1, hl1⟩ := bcell hk1) | (obtain ⟨hc1, hf1, hz1, hl1⟩ := bcell hb1))
        go_ret
        exact ⟨ret_bool HZ.out.symm, (by repeat' (first | exact Below.refl _ _ | (with_reducible first | assumption | exact Nat.le_refl _ | refine Below.alloc ?_ ?_ _ | refine Below.setCell ?_ ?_ _ | refine Below.drew ?_ | refine below_drewN ?_ _) | refine Below.trans ?_ (Below.mono (by assumption) ?_) | exact Below.size (by assumption) | omega | go_size | (simp at *; omega)))⟩
      | true =>
        have hT1 := hid (fun w1 => by have := hT1.out w1; rw [h1] at this; exact this)
        cases h2 : thrOk (x3, x4) with
        | false =>
          have HZ : Hid (beatsOk p = false) := by show _ = _; rw [hth.out, HF.out (by rw [hbt.out, h1, h2]; rfl)]; rfl
          have hT2 := hid (fun w1 => by have := hT2.out w1; rw [h2] at this; exact this)
          clear he hR hth hx hd hb HS HF hbt h1 h2
          go_wp2_with fail
          refine (hT1.out _).mono ?_
          rintro e w1 ⟨rfl, hb1⟩
          obtain ⟨hc1, hf1, hz1, hl1⟩ := bcell hb1
          go_wp2_with fail
          refine (hT2.out _).mono ?_
          rintro e w2 ⟨rfl, hb2⟩
          go_wp2
          go_ret
          exact ⟨ret_bool HZ.out.symm, (by repeat' (first | exact Below.refl _ _ | (with_reducible first | assumption | exact Nat.le_refl _ | refine Below.alloc ?_ ?_ _ | refine Below.setCell ?_ ?_ _ | refine Below.drew ?_ | refine below_drewN ?_ _) | refine Below.trans ?_ (Below.mono (by assumption) ?_) | exact Below.size (by assumption) | omega | go_size | (simp at *; omega)))⟩
        | true =>
          have HZ : Hid ((p.drop (k + 1)).all btOk = R) := by show _ = _; exact HS.out (by rw [hbt.out, h1, h2]; rfl)
          have hT2 := hid (fun w1 => by have := hT2.out w1; rw [h2] at this; exact this)
          clear he hR hth hx hd hb HS HF hbt h1 h2
          go_wp2_with fail
          refine (hT1.out _).mono ?_
          rintro e w1 ⟨rfl, hb1⟩
          obtain ⟨hc1, hf1, hz1, hl1⟩ := bcell hb1
          go_wp2_with fail
          refine (hT2.out _).mono ?_
          rintro e w2 ⟨rfl, hb2⟩
          go_wp2
          go_roundw
          case rel => exact hid ⟨k + 1, by omega, by go_num, HZ, (by repeat' (first | exact Below.refl _ _ | (with_reducible first | assumption | exact Nat.le_refl _ | refine Below.alloc ?_ ?_ _ | refine Below.setCell ?_ ?_ _ | refine Below.drew ?_ | refine below_drewN ?_ _) | refine Below.trans ?_ (Below.mono (by assumption) ?_) | exact Below.size (by assumption) | omega | go_size | (simp at *; omega)))⟩
          case measure => simp [intOf]; omega
    · have hkn : k = n := by omega
      have HZ : Hid (beatsOk p = betweenB (n : Int) 1 6) := by
        show _ = _
        have := he.out
        rw [List.drop_eq_nil_of_le (by rw [HL.out]; omega)] at this
        rw [hth.out, ← this]; rfl
      clear he hR hth hkn
      go_wp2_with (go_at_call 54; refine (l00In_any _ _ _ _).mono ?_; rintro e w' ⟨rfl, rfl⟩)
      go_ret
      exact ⟨ret_bool HZ.out.symm, (by repeat' (first | exact Below.refl _ _ | (with_reducible first | assumption | exact Nat.le_refl _ | refine Below.alloc ?_ ?_ _ | refine Below.setCell ?_ ?_ _ | refine Below.drew ?_ | refine below_drewN ?_ _) | refine Below.trans ?_ (Below.mono (by assumption) ?_) | exact Below.size (by assumption) | omega | go_size | (simp at *; omega)))⟩
theorem nth_even {p : List Beat} {k : Nat} {x : Beat} (h : k % 2 = 0) (hx : p[k / 2]? = some x) : nth p k = x.1 := by
  unfold nth; rw [if_pos h, List.getD_eq_getElem?_getD, hx]; rfl
theorem nth_odd {p : List Beat} {k : Nat} {x : Beat} (h : ¬ k % 2 = 0) (hx : p[k / 2]? = some x) : nth p k = x.2 := by
  unfold nth; rw [if_neg h, List.getD_eq_getElem?_getD, hx]; rfl
theorem ret_thr {a : Int} {b : Bool} {t : Thr} (h : t = (a, b)) : Ending.returned (.agg #[.int .i64 a, .bool b]) = .returned (.agg #[.int .i64 t.1, .bool t.2]) := by subst h; rfl
theorem numbered_any (A : Option Addr) (n c k : Nat) (p : List Beat) (w : World) (hn : n ≤ 1099511627776) (hk : k < 2 * n) (hr : Rd w w.heap.size 4 A n (bts p)) :
    Calls Tryz.prog 147 #[.slice A n c, .int .i64 (k : Int)] w fun e w' => e = .returned (.agg #[.int .i64 (nth p k).1, .bool (nth p k).2]) ∧ Below w.heap.size w w' := by
  obtain ⟨j, hj⟩ : ∃ j : Nat, (k : Int) / 2 = (j : Int) := ⟨k / 2, by omega⟩
  have hjn : j < n := by omega
  have hj2 : j = k / 2 := by omega
  obtain ⟨b, off, x, rfl, hb, hx, _, c0, c1, c2, c3⟩ := hr.bt_at hjn
  obtain ⟨⟨x1, x2⟩, ⟨x3, x4⟩⟩ := x
  rw [hj2] at hx
  by_cases h : k % 2 = 0
  · have hq : ((k : Int) % 2 == 0) = true := by simp; omega
    have HT := hid (nth_even h hx)
    clear hx h hr hj2
    go_enter Tryz.func147, Tryz.ntmps147
    go_wp2
    refine bodyPost_ret (v := .agg #[.int .i64 x1, .bool x2]) ?_ rfl ⟨ret_thr HT.out, (by repeat' (first | exact Below.refl _ _ | (with_reducible first | assumption | exact Nat.le_refl _ | refine Below.alloc ?_ ?_ _ | refine Below.setCell ?_ ?_ _ | refine Below.drew ?_ | refine below_drewN ?_ _) | refine Below.trans ?_ (Below.mono (by assumption) ?_) | exact Below.size (by assumption) | omega | go_size | (simp at *; omega)))⟩
    simp (maxDischargeDepth := 8) [results, Tryz.results147, go_sem, *]
  · have hq : ((k : Int) % 2 == 0) = false := by simp; omega
    have HT := hid (nth_odd h hx)
    clear hx h hr hj2
    go_enter Tryz.func147, Tryz.ntmps147
    go_wp2
    refine bodyPost_ret (v := .agg #[.int .i64 x3, .bool x4]) ?_ rfl ⟨ret_thr HT.out, (by repeat' (first | exact Below.refl _ _ | (with_reducible first | assumption | exact Nat.le_refl _ | refine Below.alloc ?_ ?_ _ | refine Below.setCell ?_ ?_ _ | refine Below.drew ?_ | refine below_drewN ?_ _) | refine Below.trans ?_ (Below.mono (by assumption) ?_) | exact Below.size (by assumption) | omega | go_size | (simp at *; omega)))⟩
    simp (maxDischargeDepth := 8) [results, Tryz.results147, go_sem, *]
theorem l05At_any (A : Option Addr) (n c k : Nat) (p : List Beat) (w : World) (hn : n ≤ 1099511627776) (hk : k < 2 * n) (hr : Rd w w.heap.size 4 A n (bts p)) :
    Calls Tryz.prog 145 #[.slice A n c, .int .i64 (k : Int)] w fun e w' => e = .returned (.agg #[.int .i64 (nth p k).1, .bool (nth p k).2]) ∧ Below w.heap.size w w' := by
  obtain ⟨j, hj⟩ : ∃ j : Nat, (k : Int) / 2 = (j : Int) := ⟨k / 2, by omega⟩
  have hjn : j < n := by omega
  have hj2 : j = k / 2 := by omega
  obtain ⟨b, off, x, rfl, hb, hx, _, c0, c1, c2, c3⟩ := hr.bt_at hjn
  obtain ⟨⟨x1, x2⟩, ⟨x3, x4⟩⟩ := x
  rw [hj2] at hx
  by_cases h : k % 2 = 0
  · have hq : ((k : Int) % 2 == 0) = true := by simp; omega
    have HT := hid (nth_even h hx)
    clear hx h hr hj2
    go_enter Tryz.func145, Tryz.ntmps145
    go_wp2
    refine bodyPost_ret (v := .agg #[.int .i64 x1, .bool x2]) ?_ rfl ⟨ret_thr HT.out, (by repeat' (first | exact Below.refl _ _ | (with_reducible first | assumption | exact Nat.le_refl _ | refine Below.alloc ?_ ?_ _ | refine Below.setCell ?_ ?_ _ | refine Below.drew ?_ | refine below_drewN ?_ _) | refine Below.trans ?_ (Below.mono (by assumption) ?_) | exact Below.size (by assumption) | omega | go_size | (simp at *; omega)))⟩
    simp (maxDischargeDepth := 8) [results, Tryz.results145, go_sem, *]
  · have hq : ((k : Int) % 2 == 0) = false := by simp; omega
    have HT := hid (nth_odd h hx)
    clear hx h hr hj2
    go_enter Tryz.func145, Tryz.ntmps145
    go_wp2
    refine bodyPost_ret (v := .agg #[.int .i64 x3, .bool x4]) ?_ rfl ⟨ret_thr HT.out, (by repeat' (first | exact Below.refl _ _ | (with_reducible first | assumption | exact Nat.le_refl _ | refine Below.alloc ?_ ?_ _ | refine Below.setCell ?_ ?_ _ | refine Below.drew ?_ | refine below_drewN ?_ _) | refine Below.trans ?_ (Below.mono (by assumption) ?_) | exact Below.size (by assumption) | omega | go_size | (simp at *; omega)))⟩
    simp (maxDischargeDepth := 8) [results, Tryz.results145, go_sem, *]
theorem nth_bd {p : List Beat} (h : beatsOk p = true) (k : Nat) : 0 ≤ (nth p k).1 ∧ (nth p k).1 ≤ 14 := by
  have h1 := (beatsOk_iff.1 h).1
  have h2 : ∀ j, thrOk (p.getD j b0).1 = true ∧ thrOk (p.getD j b0).2 = true := by
    intro j
    rw [List.getD_eq_getElem?_getD]
    cases hx : p[j]? with
    | none => exact ⟨by decide, by decide⟩
    | some x => exact h1 x (List.mem_of_getElem? hx)
  unfold nth
  split
  · exact (thrOk_iff.1 (h2 _).1).1
  · exact (thrOk_iff.1 (h2 _).2).1
theorem syncLanding_any (A : Option Addr) (n c k : Nat) (p : List Beat) (w : World) (hp : beatsOk p = true) (hk : k < 2 * n) (hr : Rd w w.heap.size 4 A n (bts p)) :
    Calls Tryz.prog 134 #[.slice A n c, .int .i64 (k : Int)] w fun e w' => e = .returned (.int .i64 (syL p k)) ∧ Below w.heap.size w w' := by
  have hlen := hr.bt_len
  have h6 := (beatsOk_iff.1 hp).2.2
  rw [hlen] at h6
  have hN := hid (numbered_any A n c k p w (by omega) hk hr)
  obtain ⟨v0, v1⟩ := nth_bd hp k
  have hL : Hid (syL p k = (((k / 2 : Nat) : Int) + (nth p k).1 / 2) % (n : Int) * 2 + ((if (nth p k).2 then 1 - k % 2 else k % 2 : Nat) : Int)) := by show _ = _; rw [← hlen]; rfl
  generalize syL p k = L at *
  generalize nth p k = t at *
  obtain ⟨v, cr⟩ := t
  simp only at v0 v1
  have hn1 : 1 ≤ (n : Int) := by omega
  have hm0 : 0 ≤ ((k : Int) / 2 + v / 2) % (n : Int) := Int.emod_nonneg _ (by omega)
  have hm1 : ((k : Int) / 2 + v / 2) % (n : Int) < n := Int.emod_lt_of_pos _ (by omega)
  clear hp hr hlen
  cases cr
  · have hZ : Hid (L = ((k : Int) / 2 + v / 2) % (n : Int) * 2 + (k : Int) % 2) := by show _ = _; rw [hL.out]; simp
    clear hL
    go_enter Tryz.func134, Tryz.ntmps134
    go_wp2_with fail
    refine hN.out.mono ?_
    rintro e w1 ⟨rfl, hb1⟩
    go_wp2
    go_ret
    exact ⟨ret_int hZ.out.symm, (by repeat' (first | exact Below.refl _ _ | (with_reducible first | assumption | exact Nat.le_refl _ | refine Below.alloc ?_ ?_ _ | refine Below.setCell ?_ ?_ _ | refine Below.drew ?_ | refine below_drewN ?_ _) | refine Below.trans ?_ (Below.mono (by assumption) ?_) | exact Below.size (by assumption) | omega | go_size | (simp at *; omega)))⟩
  · have hZ : Hid (L = ((k : Int) / 2 + v / 2) % (n : Int) * 2 + (1 - (k : Int) % 2)) := by show _ = _; rw [hL.out]; simp; omega
    clear hL
    go_enter Tryz.func134, Tryz.ntmps134
    go_wp2_with fail
    refine hN.out.mono ?_
    rintro e w1 ⟨rfl, hb1⟩
    go_wp2
    go_ret
    exact ⟨ret_int hZ.out.symm, (by repeat' (first | exact Below.refl _ _ | (with_reducible first | assumption | exact Nat.le_refl _ | refine Below.alloc ?_ ?_ _ | refine Below.setCell ?_ ?_ _ | refine Below.drew ?_ | refine below_drewN ?_ _) | refine Below.trans ?_ (Below.mono (by assumption) ?_) | exact Below.size (by assumption) | omega | go_size | (simp at *; omega)))⟩
theorem l05Land_any (A : Option Addr) (n c k : Nat) (p : List Beat) (w : World) (hp : beatsOk p = true) (hk : k < 2 * n) (hr : Rd w w.heap.size 4 A n (bts p)) :
    Calls Tryz.prog 140 #[.slice A n c, .int .i64 (k : Int)] w fun e w' => e = .returned (.int .i64 (syL p k)) ∧ Below w.heap.size w w' := by
  have hlen := hr.bt_len
  have h6 := (beatsOk_iff.1 hp).2.2
  rw [hlen] at h6
  have hN := hid (l05At_any A n c k p w (by omega) hk hr)
  obtain ⟨v0, v1⟩ := nth_bd hp k
  have hL : Hid (syL p k = (((k / 2 : Nat) : Int) + (nth p k).1 / 2) % (n : Int) * 2 + ((if (nth p k).2 then 1 - k % 2 else k % 2 : Nat) : Int)) := by show _ = _; rw [← hlen]; rfl
  generalize syL p k = L at *
  generalize nth p k = t at *
  obtain ⟨v, cr⟩ := t
  simp only at v0 v1
  have hn1 : 1 ≤ (n : Int) := by omega
  have hm0 : 0 ≤ ((k : Int) / 2 + v / 2) % (n : Int) := Int.emod_nonneg _ (by omega)
  have hm1 : ((k : Int) / 2 + v / 2) % (n : Int) < n := Int.emod_lt_of_pos _ (by omega)
  clear hp hr hlen
  cases cr
  · have hZ : Hid (L = ((k : Int) / 2 + v / 2) % (n : Int) * 2 + (k : Int) % 2) := by show _ = _; rw [hL.out]; simp
    clear hL
    go_enter Tryz.func140, Tryz.ntmps140
    go_wp2_with fail
    refine hN.out.mono ?_
    rintro e w1 ⟨rfl, hb1⟩
    go_wp2
    go_ret
    exact ⟨ret_int hZ.out.symm, (by repeat' (first | exact Below.refl _ _ | (with_reducible first | assumption | exact Nat.le_refl _ | refine Below.alloc ?_ ?_ _ | refine Below.setCell ?_ ?_ _ | refine Below.drew ?_ | refine below_drewN ?_ _) | refine Below.trans ?_ (Below.mono (by assumption) ?_) | exact Below.size (by assumption) | omega | go_size | (simp at *; omega)))⟩
  · have hZ : Hid (L = ((k : Int) / 2 + v / 2) % (n : Int) * 2 + (1 - (k : Int) % 2)) := by show _ = _; rw [hL.out]; simp; omega
    clear hL
    go_enter Tryz.func140, Tryz.ntmps140
    go_wp2_with fail
    refine hN.out.mono ?_
    rintro e w1 ⟨rfl, hb1⟩
    go_wp2
    go_ret
    exact ⟨ret_int hZ.out.symm, (by repeat' (first | exact Below.refl _ _ | (with_reducible first | assumption | exact Nat.le_refl _ | refine Below.alloc ?_ ?_ _ | refine Below.setCell ?_ ?_ _ | refine Below.drew ?_ | refine below_drewN ?_ _) | refine Below.trans ?_ (Below.mono (by assumption) ?_) | exact Below.size (by assumption) | omega | go_size | (simp at *; omega)))⟩
set_option maxHeartbeats 400000 in
theorem SyncClash_any (A : Option Addr) (n c : Nat) (p : List Beat) (w : World) (hn : n ≤ 1099511627776) (hr : Rd w w.heap.size 4 A n (bts p)) :
    Calls Tryz.prog 102 #[.slice A n c] w fun e w' => e = .returned (.tuple #[.int .i64 (rSyncClash p).1, .int .i64 (rSyncClash p).2.1, .int .i64 (rSyncClash p).2.2]) ∧ Below w.heap.size w w' := by
  have hlen := hr.bt_len
  have hA := areSyncBeats_any A n c p w hn hr
  cases hp : beatsOk p with
  | true =>
    rw [hp] at hA
    have hA := hid hA
    have h6 := (beatsOk_iff.1 hp).2.2
    have h1 := (beatsOk_iff.1 hp).2.1
    rw [hlen] at h6 h1
    have hLd := hid (fun (w1 : World) (b : Below w.heap.size w w1) (k : Nat) (hk : k < 2 * n) => syncLanding_any A n c k p w1 hp hk ((hr.below b (Nat.le_refl _)).more b.size))
    have hrc : Hid (rSyncClash p = colR (syC p)) := by show _ = _; simp [rSyncClash, hp]
    have hst : Hid (col2 (syL p) (2 * n - 0) 0 = syC p) := by show _ = _; rw [syC, hlen]; rfl
    obtain ⟨N, hN⟩ : ∃ N : Nat, 2 * (n : Int) = (N : Int) := ⟨2 * n, by omega⟩
    have hNn : N = 2 * n := by omega
    rw [← hNn] at hst
    have hLd := hid (fun (w1 : World) (b : Below w.heap.size w w1) (k : Nat) (hk : k < N) => hLd.out w1 b k (by omega))
    have hN6 : N ≤ 12 := by omega
    generalize syL p = L at *
    generalize syC p = C at *
    clear hr hlen hp hNn
    go_enter Tryz.func102, Tryz.ntmps102
    go_wp2_with (go_at_call 106; refine (hA.out).mono ?_; rintro e w1 ⟨rfl, hb1⟩; first | (have hk1 := bchain (by assumption) hb1; obtain ⟨hc1, hf1, hz1, hl1⟩ := bcell hk1) | (obtain ⟨hc1, hf1, hz1, hl1⟩ := bcell hb1))
    clear hN
    go_loopw [13] (fun i wr => Hid (∃ k : Nat, k ≤ N ∧ i = .int .i64 k ∧ Hid (col2 L (N - k) k = C) ∧ Below w.heap.size w wr)) (fun i _ => N - (intOf i).toNat)
    case atStart => exact hid ⟨0, Nat.zero_le _, rfl, hst, (by repeat' (first | exact Below.refl _ _ | (with_reducible first | assumption | exact Nat.le_refl _ | refine Below.alloc ?_ ?_ _ | refine Below.setCell ?_ ?_ _ | refine Below.drew ?_ | refine below_drewN ?_ _) | refine Below.trans ?_ (Below.mono (by assumption) ?_) | exact Below.size (by assumption) | omega | go_size | (simp at *; omega)))⟩
    case round =>
      obtain ⟨k, hk, rfl, he, hb0⟩ := hrel.out
      clear hrel hst hb1
      by_cases hlt : k < N
      · obtain ⟨wo, rfl⟩ : ∃ wo : World, wo = wr := ⟨_, rfl⟩
        go_wp2
        go_loopw [17] (fun i w2 => Hid (∃ j : Nat, j ≤ k ∧ i = .int .i64 j ∧ Hid (col1 L k (k - j) j = col1 L k k 0) ∧ Below w.heap.size w w2)) (fun i _ => k - (intOf i).toNat)
        case atStart => exact hid ⟨0, Nat.zero_le _, rfl, rfl, hb0⟩
        case round =>
          obtain ⟨j, hj, rfl, he2, hb2⟩ := hrel.out
          clear hrel hb0
          by_cases hlj : j < k
          · have hkj : k - j = (k - (j + 1)) + 1 := by omega
            have hC1 := hid (hLd.out _ hb2 j (by omega))
            have hC2 := hid (fun (w1 : World) (b : Below w.heap.size w w1) => hLd.out w1 b k hlt)
            by_cases hxy : L j = L k
            · have HZ : Hid (rSyncClash p = ((j : Int), (k : Int), 9)) := by
                show _ = _
                have h3 := he2.out
                rw [hkj] at h3
                have h4 : col1 L k (k - (j + 1) + 1) j = some j := by rw [col1, if_pos hxy]
                rw [h4] at h3
                have h5 := he.out
                have hkk : N - k = (N - (k + 1)) + 1 := by omega
                rw [hkk, col2_some1 h3.symm] at h5
                rw [hrc.out, ← h5]; rfl
              have hq : (L j == L k) = true := by simpa using hxy
              generalize L j = x at *
              generalize L k = y at *
              clear he he2 hkj hrc hxy
              go_wp2_with fail
              refine hC1.out.mono ?_
              rintro e w3 ⟨rfl, hb3⟩
              have hb3 := bchain hb2 hb3
              go_wp2_with fail
              refine (hC2.out _ hb3).mono ?_
              rintro e w4 ⟨rfl, hb4⟩
              have hb4 := bchain hb3 hb4
              go_wp2
              go_ret3
              exact ⟨by rw [HZ.out]; first | done | rfl, (by repeat' (first | exact Below.refl _ _ | (with_reducible first | assumption | exact Nat.le_refl _ | refine Below.alloc ?_ ?_ _ | refine Below.setCell ?_ ?_ _ | refine Below.drew ?_ | refine below_drewN ?_ _) | refine Below.trans ?_ (Below.mono (by assumption) ?_) | exact Below.size (by assumption) | omega | go_size | (simp at *; omega)))⟩
            · have HZ : Hid (col1 L k (k - (j + 1)) (j + 1) = col1 L k k 0) := by
                show _ = _
                have h3 := he2.out
                rw [hkj] at h3
                rw [← h3, col1, if_neg hxy]
              have hq : (L j == L k) = false := by simpa using hxy
              obtain ⟨x, hx⟩ : ∃ x, L j = x := ⟨_, rfl⟩
              obtain ⟨y, hy⟩ : ∃ y, L k = y := ⟨_, rfl⟩
              rw [hx, hy] at hq
              rw [hx] at hC1
              rw [hy] at hC2
              clear he2 hkj hxy hx hy
              go_wp2_with fail
              refine hC1.out.mono ?_
              rintro e w3 ⟨rfl, hb3⟩
              have hb3 := bchain hb2 hb3
              go_wp2_with fail
              refine (hC2.out _ hb3).mono ?_
              rintro e w4 ⟨rfl, hb4⟩
              have hb4 := bchain hb3 hb4
              go_wp2
              go_roundw
              case rel => exact hid ⟨j + 1, by omega, by go_num, HZ, (by repeat' (first | exact Below.refl _ _ | (with_reducible first | assumption | exact Nat.le_refl _ | refine Below.alloc ?_ ?_ _ | refine Below.setCell ?_ ?_ _ | refine Below.drew ?_ | refine below_drewN ?_ _) | refine Below.trans ?_ (Below.mono (by assumption) ?_) | exact Below.size (by assumption) | omega | go_size | (simp at *; omega)))⟩
              case measure => simp [intOf]; omega
          · have HZ : Hid (col2 L (N - (k + 1)) (k + 1) = C) := by
              show _ = _
              have hjk : j = k := by omega
              have h3 := he2.out
              rw [hjk, Nat.sub_self] at h3
              have hkk : N - k = (N - (k + 1)) + 1 := by omega
              rw [← he.out, hkk, col2_none1 h3.symm]
            clear he he2
            go_wp2
            go_roundw
            case rel => exact hid ⟨k + 1, by omega, by go_num, HZ, (by repeat' (first | exact Below.refl _ _ | (with_reducible first | assumption | exact Nat.le_refl _ | refine Below.alloc ?_ ?_ _ | refine Below.setCell ?_ ?_ _ | refine Below.drew ?_ | refine below_drewN ?_ _) | refine Below.trans ?_ (Below.mono (by assumption) ?_) | exact Below.size (by assumption) | omega | go_size | (simp at *; omega)))⟩
            case measure => simp [intOf]; omega
      · have HZ : Hid (rSyncClash p = (-1, -1, 0)) := by
          show _ = _
          have h5 := he.out
          have hkn : N - k = 0 := by omega
          rw [hkn] at h5
          rw [hrc.out, ← h5]; rfl
        clear he hrc
        go_wp2
        go_ret3
        exact ⟨by rw [HZ.out]; first | done | rfl, hb0⟩
  | false =>
    rw [hp] at hA
    have hA := hid hA
    have hs : rSyncClash p = (0, 0, 1) := by simp [rSyncClash, hp]
    rw [hs]
    clear hr hlen hp hs
    go_enter Tryz.func102, Tryz.ntmps102
    go_wp2_with (go_at_call 106; refine (hA.out).mono ?_; rintro e w1 ⟨rfl, hb1⟩; first | (have hk1 := bchain (by assumption) hb1; obtain ⟨hc1, hf1, hz1, hl1⟩ := bcell hk1) | (obtain ⟨hc1, hf1, hz1, hl1⟩ := bcell hb1))
    go_ret3
    exact ⟨rfl, (by repeat' (first | exact Below.refl _ _ | (with_reducible first | assumption | exact Nat.le_refl _ | refine Below.alloc ?_ ?_ _ | refine Below.setCell ?_ ?_ _ | refine Below.drew ?_ | refine below_drewN ?_ _) | refine Below.trans ?_ (Below.mono (by assumption) ?_) | exact Below.size (by assumption) | omega | go_size | (simp at *; omega)))⟩
end Go.Proofs.YtgphkfnobmponaaGreat

/- Contracts of the laws' own helpers over rows of rows: compare, mark, look again. -/
namespace Go.Proofs.YtgphkfnobmponaaGreat
open Go.RowKit
set_option linter.unusedVariables false

/-- All numbers of all rows, counted. -/
def tot : List (List Int) → Nat
  | [] => 0
  | r :: rs => r.length + tot rs
/-- The marks k, k + 1, .. through all rows. -/
def mkRows : Nat → List (List Int) → List (List Int)
  | _, [] => []
  | k, r :: rs => marks k r.length :: mkRows (k + r.length) rs
/-- One row of a grid is written over. -/
theorem Grid.mark {w : World} {base M i : Nat} {v : Value} {rows : List (List Int)} {row : List Int} (h : Grid w base M v rows) (hi : rows[i]? = some row) :
    ∃ b c Ai ci, v = .slice (some ⟨b, 0, none⟩) rows.length c ∧ w.cell? ⟨b, i, none⟩ = some (.slice Ai row.length ci) ∧ w.ownsRow base 2 1 (.slice Ai row.length ci) row.length (ints row) ∧
      ∀ w' row', row'.length = row.length → w.grownBy w' (Value.slice Ai row.length ci).ownBlock → w'.ownsRow base 2 1 (.slice Ai row.length ci) row.length (ints row') → Grid w' base M v (rows.set i row') ∧ Below base w w' := by
  obtain ⟨vs, h1, h2, h3, h4⟩ := h
  have hil : i < rows.length := (List.getElem?_eq_some_iff.1 hi).1
  have hu : vs[i]? = some (vs[i]'(by omega)) := List.getElem?_eq_getElem (by omega)
  generalize vs[i]'(by omega) = u at hu
  obtain ⟨ho, hlt⟩ := h3 i u row hu hi
  obtain ⟨Ai, ci, rfl⟩ := own_form ho
  rcases h2.2 with ⟨_, h0⟩ | ⟨g, cap, cur, rfl, hg, hh, r⟩
  · omega
  · refine ⟨g, cap, Ai, ci, rfl, (h2.cellAt i (by omega)).trans hu, ho, fun w' row' hl hgr ho' => ⟨⟨vs, by rw [List.length_set]; exact h1, ?_, fun j x r a b => ?_, h4⟩, ?_⟩⟩
    · rw [List.length_set]; exact own_types h2 ho (by decide) hgr
    · by_cases hij : i = j
      · subst hij
        rw [List.getElem?_set_self hil] at b
        obtain rfl : row' = r := Option.some.inj b
        rw [hu] at a
        obtain rfl := Option.some.inj a
        rw [hl]
        exact ⟨ho', hlt⟩
      · rw [List.getElem?_set_ne hij] at b
        refine ⟨(h3 j x r a b).1.kept hgr ?_, (h3 j x r a b).2⟩
        cases hb : x.ownBlock with
        | none => exact .inl rfl
        | some q =>
          refine .inr fun e => ?_
          obtain ⟨hj, ej⟩ := List.getElem?_eq_some_iff.1 a
          obtain ⟨hi2, ei⟩ := List.getElem?_eq_some_iff.1 hu
          rcases Nat.lt_or_gt_of_ne hij with k | k
          · have := List.pairwise_iff_getElem.1 h4 i j hi2 hj k
            rw [ei, ej] at this
            have := this q q e.symm hb
            omega
          · have := List.pairwise_iff_getElem.1 h4 j i hj hi2 k
            rw [ei, ej] at this
            have := this q q hb e.symm
            omega
    · exact ⟨hgr.os, hgr.tape, hgr.output, hgr.size, fun k hk => by
        rcases Nat.lt_or_ge k w.heap.size with hkw | hkw
        · exact hgr.block k hkw fun e => by have := (ho.lt k e.symm).1; omega
        · have := h2.lt g rfl; omega⟩
theorem Grid.loM {w w' : World} {B base M : Nat} {v : Value} {rows : List (List Int)} (h : Grid w base M v rows) (hM : ∀ g, v.ownBlock = some g → g < M) (hb : Below B w w') (hB : M ≤ B) : Grid w' base M v rows := by
  obtain ⟨vs, h1, h2, h3, h4⟩ := h
  refine ⟨vs, h1, own_lo h2 hb (fun g hg => ?_), fun j u row a b => ⟨own_lo (h3 j u row a b).1 hb (fun g hg => ?_), (h3 j u row a b).2⟩, h4⟩
  · have := hM g hg; omega
  · have := (h3 j u row a b).2 g hg; omega
end Go.Proofs.YtgphkfnobmponaaGreat
