/- Contracts of the functions that check passing patterns: forms, equality. -/
import Derived.Test.YtlbhfjbbkkkldaaBo
import Derived.Test.YtlbhfjbbkkkldaaQs
import Derived.Test.YtlbhfjbbkkkldaaA
import Derived.Test.YtlbhfjbbkkkldaaTh
import Derived.Test.YtlbhfjbbkkkldaaAp
import Derived.Deep.RegionHeld3
import Derived.Deep.QuietTactic
import Derived.BigQuiet
namespace Go.Proofs.Ytlbhfjbbkkkldaa
open Go.RowKit
set_option linter.unusedVariables false

theorem allq_step {α : Type} {f : α → Bool} {p : List α} {k : Nat} {x : α} {R : Bool} (he : (p.drop k).all f = R) (hd : p.drop k = x :: p.drop (k + 1)) (h : f x = true) : (p.drop (k + 1)).all f = R := by
  rw [hd, List.all_cons, h, Bool.true_and] at he; exact he
theorem allq_stop {α : Type} {f : α → Bool} {p : List α} {k : Nat} {x : α} {R : Bool} (he : (p.drop k).all f = R) (hd : p.drop k = x :: p.drop (k + 1)) (h : f x = false) : R = false := by
  rw [hd, List.all_cons, h, Bool.false_and] at he; exact he.symm
theorem arePasses_any (A : Option Addr) (n c : Nat) (p : List PT) (w : World) (hn : n ≤ 1099511627776) (hr : Rd w w.heap.size 2 A n (ths p)) :
    Calls Try.prog 165 #[.slice A n c] w fun e w' => e = .returned (.bool (ptsOk p)) ∧ Below w.heap.size w w' := by
  have hlen := hr.th_len
  obtain ⟨R, hR⟩ : ∃ R, (p.drop 0).all ptOk = R := ⟨_, rfl⟩
  have hth : Hid (ptsOk p = R) := by show _ = _; rw [← hR]; rfl
  have hR := hid hR
  have HR := hid hr
  have HL := hid hlen
  clear hr hlen
  go_enter Try.func165, Try.ntmps165
  go_wp2
  go_loopw [7] (fun i wr => Hid (∃ k : Nat, k ≤ n ∧ i = .int .i64 k ∧ Hid ((p.drop k).all ptOk = R) ∧ Below w.heap.size w wr)) (fun i _ => n - (intOf i).toNat)
  case atStart => exact hid ⟨0, Nat.zero_le _, rfl, hR, (by repeat' (first | exact Below.refl _ _ | (with_reducible assumption) | (with_reducible refine Below.alloc ?_ ?_ _) | (with_reducible refine Below.setCell ?_ ?_ _) | (with_reducible refine Below.drew ?_) | (with_reducible refine below_drewN ?_ _) | (refine Below.trans ?_ (Below.mono (by assumption) ?_)) | (with_reducible exact Nat.le_refl _) | (with_reducible assumption) | (exact Below.size (by assumption)) | omega | go_size | (simp at *; omega)))⟩
  case round =>
    obtain ⟨k, hk, rfl, he, hb0⟩ := hrel.out
    have hz := hb0.size
    clear hrel
    by_cases hlt : k < n
    · obtain ⟨b, off, x, rfl, hb, hx, hd, c0, c1⟩ := (HR.out.below hb0 (Nat.le_refl _)).th_at hlt
      obtain ⟨x1, x2⟩ := x
      have hbw : b < wr.heap.size := by omega
      have hbt : Hid (ptOk (x1, x2) = (betweenB x1 0 15 && !(x1 == 0 && x2))) := rfl
      have HS := hid (fun h => allq_step he.out hd (x := ((x1, x2) : PT)) h)
      have HF := hid (fun h => allq_stop he.out hd (x := ((x1, x2) : PT)) h)
      cases hbx : betweenB x1 0 15 with
      | false =>
        have HZ : Hid (ptsOk p = false) := by show _ = _; rw [hth.out, HF.out (by rw [hbt.out, hbx]; rfl)]
        have hB := hid (fun w1 => by have := between_any x1 0 15 w1; rw [hbx] at this; exact this)
        clear he hR hth hx hd hb HS HF hbt hbx
        go_wp2_with (go_at_call 122; refine (hB.out _).mono ?_; rintro e w' ⟨rfl, rfl⟩)
        go_ret
        exact ⟨ret_bool HZ.out.symm, (by repeat' (first | exact Below.refl _ _ | (with_reducible assumption) | (with_reducible refine Below.alloc ?_ ?_ _) | (with_reducible refine Below.setCell ?_ ?_ _) | (with_reducible refine Below.drew ?_) | (with_reducible refine below_drewN ?_ _) | (refine Below.trans ?_ (Below.mono (by assumption) ?_)) | (with_reducible exact Nat.le_refl _) | (with_reducible assumption) | (exact Below.size (by assumption)) | omega | go_size | (simp at *; omega)))⟩
      | true =>
        have hB := hid (fun w1 => by have := between_any x1 0 15 w1; rw [hbx] at this; exact this)
        by_cases h0 : x1 = 0
        · subst h0
          cases x2
          · have HZ : Hid ((p.drop (k + 1)).all ptOk = R) := HS.out (by rw [hbt.out, hbx]; rfl)
            clear he hR hth hx hd hb HS HF hbt hbx
            go_wp2_with (go_at_call 122; refine (hB.out _).mono ?_; rintro e w' ⟨rfl, rfl⟩)
            go_roundw
            case rel => exact hid ⟨k + 1, by omega, by go_num, HZ, (by repeat' (first | exact Below.refl _ _ | (with_reducible assumption) | (with_reducible refine Below.alloc ?_ ?_ _) | (with_reducible refine Below.setCell ?_ ?_ _) | (with_reducible refine Below.drew ?_) | (with_reducible refine below_drewN ?_ _) | (refine Below.trans ?_ (Below.mono (by assumption) ?_)) | (with_reducible exact Nat.le_refl _) | (with_reducible assumption) | (exact Below.size (by assumption)) | omega | go_size | (simp at *; omega)))⟩
            case measure => simp [intOf]; omega
          · have HZ : Hid (ptsOk p = false) := by show _ = _; rw [hth.out, HF.out (by rw [hbt.out, hbx]; rfl)]
            clear he hR hth hx hd hb HS HF hbt hbx
            go_wp2_with (go_at_call 122; refine (hB.out _).mono ?_; rintro e w' ⟨rfl, rfl⟩)
            go_ret
            exact ⟨ret_bool HZ.out.symm, (by repeat' (first | exact Below.refl _ _ | (with_reducible assumption) | (with_reducible refine Below.alloc ?_ ?_ _) | (with_reducible refine Below.setCell ?_ ?_ _) | (with_reducible refine Below.drew ?_) | (with_reducible refine below_drewN ?_ _) | (refine Below.trans ?_ (Below.mono (by assumption) ?_)) | (with_reducible exact Nat.le_refl _) | (with_reducible assumption) | (exact Below.size (by assumption)) | omega | go_size | (simp at *; omega)))⟩
        · have hq : (x1 == 0) = false := by simpa using h0
          have HZ : Hid ((p.drop (k + 1)).all ptOk = R) := HS.out (by rw [hbt.out, hbx, hq]; rfl)
          clear he hR hth hx hd hb HS HF hbt hbx h0
          go_wp2_with (go_at_call 122; refine (hB.out _).mono ?_; rintro e w' ⟨rfl, rfl⟩)
          go_roundw
          case rel => exact hid ⟨k + 1, by omega, by go_num, HZ, (by repeat' (first | exact Below.refl _ _ | (with_reducible assumption) | (with_reducible refine Below.alloc ?_ ?_ _) | (with_reducible refine Below.setCell ?_ ?_ _) | (with_reducible refine Below.drew ?_) | (with_reducible refine below_drewN ?_ _) | (refine Below.trans ?_ (Below.mono (by assumption) ?_)) | (with_reducible exact Nat.le_refl _) | (with_reducible assumption) | (exact Below.size (by assumption)) | omega | go_size | (simp at *; omega)))⟩
          case measure => simp [intOf]; omega
    · have HZ : Hid (ptsOk p = true) := by
        show _ = _
        have := he.out
        rw [List.drop_eq_nil_of_le (by rw [HL.out]; omega)] at this
        rw [hth.out, ← this]; rfl
      clear he hR hth
      go_wp2
      go_ret
      exact ⟨ret_bool HZ.out.symm, (by repeat' (first | exact Below.refl _ _ | (with_reducible assumption) | (with_reducible refine Below.alloc ?_ ?_ _) | (with_reducible refine Below.setCell ?_ ?_ _) | (with_reducible refine Below.drew ?_) | (with_reducible refine below_drewN ?_ _) | (refine Below.trans ?_ (Below.mono (by assumption) ?_)) | (with_reducible exact Nat.le_refl _) | (with_reducible assumption) | (exact Below.size (by assumption)) | omega | go_size | (simp at *; omega)))⟩
theorem isPassingForm_any (A B : Option Addr) (n c m d : Nat) (p : Psg) (w : World) (hn : n ≤ 1099511627776) (hm : m ≤ 1099511627776) (hr : Rd w w.heap.size 2 A n (ths p.1)) (hs : Rd w w.heap.size 2 B m (ths p.2)) :
    Calls Try.prog 138 #[.agg #[.slice A n c, .slice B m d]] w fun e w' => e = .returned (.bool (psSh p)) ∧ Below w.heap.size w w' := by
  obtain ⟨a, b⟩ := p
  have hth : Hid (psSh (a, b) = (betweenB (n : Int) 1 8 && ((n : Int) == (m : Int)) && ptsOk a && ptsOk b)) := by
    show _ = _
    have h1 := hr.th_len
    have h2 := hs.th_len
    simp only at h1 h2
    unfold psSh
    simp only [h1, h2]
    congr 3
    rw [Bool.eq_iff_iff, beq_iff_eq, beq_iff_eq]; omega
  have hP1 := hid (fun (w1 : World) (hb : Below w.heap.size w w1) => arePasses_any A n c a w1 hn ((hr.below hb (Nat.le_refl _)).more hb.size))
  have hP2 := hid (fun (w1 : World) (hb : Below w.heap.size w w1) => arePasses_any B m d b w1 hm ((hs.below hb (Nat.le_refl _)).more hb.size))
  clear hr hs
  have hBx : Below w.heap.size w (w.alloc (Obj.cells #[.slice A n c, .slice B m d] 35)) := (by repeat' (first | exact Below.refl _ _ | (with_reducible assumption) | (with_reducible refine Below.alloc ?_ ?_ _) | (with_reducible refine Below.setCell ?_ ?_ _) | (with_reducible refine Below.drew ?_) | (with_reducible refine below_drewN ?_ _) | (refine Below.trans ?_ (Below.mono (by assumption) ?_)) | (with_reducible exact Nat.le_refl _) | (with_reducible assumption) | (exact Below.size (by assumption)) | omega | go_size | (simp at *; omega)))
  have hB := hid (fun w1 => between_any (n : Int) 1 8 w1)
  cases h1 : betweenB (n : Int) 1 8 with
  | false =>
    have HZ : Hid (psSh (a, b) = false) := by show _ = _; rw [hth.out, h1]; rfl
    have hB := hid (fun w1 => by have := hB.out w1; rw [h1] at this; exact this)
    clear h1 hth hP1 hP2
    go_enter Try.func138, Try.ntmps138
    go_wp2_with (go_at_call 122; refine (hB.out _).mono ?_; rintro e w' ⟨rfl, rfl⟩)
    go_ret
    exact ⟨ret_bool HZ.out.symm, (by repeat' (first | exact Below.refl _ _ | (with_reducible assumption) | (with_reducible refine Below.alloc ?_ ?_ _) | (with_reducible refine Below.setCell ?_ ?_ _) | (with_reducible refine Below.drew ?_) | (with_reducible refine below_drewN ?_ _) | (refine Below.trans ?_ (Below.mono (by assumption) ?_)) | (with_reducible exact Nat.le_refl _) | (with_reducible assumption) | (exact Below.size (by assumption)) | omega | go_size | (simp at *; omega)))⟩
  | true =>
    have hB := hid (fun w1 => by have := hB.out w1; rw [h1] at this; exact this)
    by_cases h2 : n = m
    · have hq : ((n : Int) == (m : Int)) = true := by rw [h2]; simp
      cases h3 : ptsOk a with
      | false =>
        have HZ : Hid (psSh (a, b) = false) := by show _ = _; rw [hth.out, h1, hq, h3]; rfl
        have hC := hP1.out _ hBx
        rw [h3] at hC
        have hC := hid hC
        clear h1 hth hP1 hP2 h2 h3
        go_enter Try.func138, Try.ntmps138
        go_wp2_with (go_at_call 122; refine (hB.out _).mono ?_; rintro e w' ⟨rfl, rfl⟩)
        refine hC.out.mono ?_
        rintro e w1 ⟨rfl, hb1⟩
        go_wp2
        go_ret
        exact ⟨ret_bool HZ.out.symm, (by repeat' (first | exact Below.refl _ _ | (with_reducible assumption) | (with_reducible refine Below.alloc ?_ ?_ _) | (with_reducible refine Below.setCell ?_ ?_ _) | (with_reducible refine Below.drew ?_) | (with_reducible refine below_drewN ?_ _) | (refine Below.trans ?_ (Below.mono (by assumption) ?_)) | (with_reducible exact Nat.le_refl _) | (with_reducible assumption) | (exact Below.size (by assumption)) | omega | go_size | (simp at *; omega)))⟩
      | true =>
        have HZ : Hid (psSh (a, b) = ptsOk b) := by show _ = _; rw [hth.out, h1, hq, h3]; rfl
        have hC := hP1.out _ hBx
        rw [h3] at hC
        have hC := hid hC
        clear h1 hth hP1 h2 h3
        go_enter Try.func138, Try.ntmps138
        go_wp2_with (go_at_call 122; refine (hB.out _).mono ?_; rintro e w' ⟨rfl, rfl⟩)
        refine hC.out.mono ?_
        rintro e w1 ⟨rfl, hb1⟩
        obtain ⟨hc1, hf1, hz1, hl1⟩ := bcell hb1
        have hB1 : Below w.heap.size w w1 := (by repeat' (first | exact Below.refl _ _ | (with_reducible assumption) | (with_reducible refine Below.alloc ?_ ?_ _) | (with_reducible refine Below.setCell ?_ ?_ _) | (with_reducible refine Below.drew ?_) | (with_reducible refine below_drewN ?_ _) | (refine Below.trans ?_ (Below.mono (by assumption) ?_)) | (with_reducible exact Nat.le_refl _) | (with_reducible assumption) | (exact Below.size (by assumption)) | omega | go_size | (simp at *; omega)))
        have hD := hid (hP2.out _ hB1)
        clear hP2 hC
        go_wp2_with fail
        refine hD.out.mono ?_
        rintro e w2 ⟨rfl, hb2⟩
        clear hD
        go_wp2
        go_ret
        exact ⟨ret_bool HZ.out.symm, (by repeat' (first | exact Below.refl _ _ | (with_reducible assumption) | (with_reducible refine Below.alloc ?_ ?_ _) | (with_reducible refine Below.setCell ?_ ?_ _) | (with_reducible refine Below.drew ?_) | (with_reducible refine below_drewN ?_ _) | (refine Below.trans ?_ (Below.mono (by assumption) ?_)) | (with_reducible exact Nat.le_refl _) | (with_reducible assumption) | (exact Below.size (by assumption)) | omega | go_size | (simp at *; omega)))⟩
    · have hq : ((n : Int) == (m : Int)) = false := by simp; omega
      have HZ : Hid (psSh (a, b) = false) := by show _ = _; rw [hth.out, h1, hq]; rfl
      clear h1 hth hP1 hP2 h2
      go_enter Try.func138, Try.ntmps138
      go_wp2_with (go_at_call 122; refine (hB.out _).mono ?_; rintro e w' ⟨rfl, rfl⟩)
      go_ret
      exact ⟨ret_bool HZ.out.symm, (by repeat' (first | exact Below.refl _ _ | (with_reducible assumption) | (with_reducible refine Below.alloc ?_ ?_ _) | (with_reducible refine Below.setCell ?_ ?_ _) | (with_reducible refine Below.drew ?_) | (with_reducible refine below_drewN ?_ _) | (refine Below.trans ?_ (Below.mono (by assumption) ?_)) | (with_reducible exact Nat.le_refl _) | (with_reducible assumption) | (exact Below.size (by assumption)) | omega | go_size | (simp at *; omega)))⟩
theorem l06List_any (A : Option Addr) (n c : Nat) (p : List PT) (w : World) (hn : n ≤ 1099511627776) (hr : Rd w w.heap.size 2 A n (ths p)) :
    Calls Try.prog 141 #[.slice A n c] w fun e w' => e = .returned (.bool (ptsOk p && betweenB (n : Int) 1 8)) ∧ w = w' := by
  have hlen := hr.th_len
  obtain ⟨R, hR⟩ : ∃ R, (p.drop 0).all ptOk = R := ⟨_, rfl⟩
  have hth : Hid (ptsOk p = R) := by show _ = _; rw [← hR]; rfl
  have hR := hid hR
  have HR := hid hr
  have HL := hid hlen
  clear hr hlen
  go_enter Try.func141, Try.ntmps141
  go_wp2
  go_loopw [3] (fun i wr => Hid (∃ k : Nat, k ≤ n ∧ i = .int .i64 k ∧ Hid ((p.drop k).all ptOk = R) ∧ wr = w)) (fun i _ => n - (intOf i).toNat)
  case atStart => exact hid ⟨0, Nat.zero_le _, rfl, hR, rfl⟩
  case round =>
    obtain ⟨k, hk, rfl, he, rfl⟩ := hrel.out
    clear hrel
    by_cases hlt : k < n
    · obtain ⟨b, off, x, rfl, hb, hx, hd, c0, c1⟩ := HR.out.th_at hlt
      obtain ⟨x1, x2⟩ := x
      have hbt : Hid (ptOk (x1, x2) = (betweenB x1 0 15 && !(x1 == 0 && x2))) := rfl
      have HS := hid (fun h => allq_step he.out hd (x := ((x1, x2) : PT)) h)
      have HF := hid (fun h => allq_stop he.out hd (x := ((x1, x2) : PT)) h)
      cases hbx : betweenB x1 0 15 with
      | false =>
        have HZ : Hid (ptsOk p = false) := by show _ = _; rw [hth.out, HF.out (by rw [hbt.out, hbx]; rfl)]
        have hB := hid (fun w1 => by have := l00In_any x1 0 15 w1; rw [hbx] at this; exact this)
        clear he hR hth hx hd hb HS HF hbt hbx
        go_wp2_with (go_at_call 95; refine (hB.out _).mono ?_; rintro e w' ⟨rfl, rfl⟩)
        go_ret
        exact ⟨ret_bool (by rw [HZ.out]; rfl), rfl⟩
      | true =>
        have hB := hid (fun w1 => by have := l00In_any x1 0 15 w1; rw [hbx] at this; exact this)
        by_cases h0 : x1 = 0
        · subst h0
          cases x2
          · have HZ : Hid ((p.drop (k + 1)).all ptOk = R) := HS.out (by rw [hbt.out, hbx]; rfl)
            clear he hR hth hx hd hb HS HF hbt hbx
            go_wp2_with (go_at_call 95; refine (hB.out _).mono ?_; rintro e w' ⟨rfl, rfl⟩)
            go_roundw
            case rel => exact hid ⟨k + 1, by omega, by go_num, HZ, by first | rfl | trivial⟩
            case measure => simp [intOf]; omega
          · have HZ : Hid (ptsOk p = false) := by show _ = _; rw [hth.out, HF.out (by rw [hbt.out, hbx]; rfl)]
            clear he hR hth hx hd hb HS HF hbt hbx
            go_wp2_with (go_at_call 95; refine (hB.out _).mono ?_; rintro e w' ⟨rfl, rfl⟩)
            go_ret
            exact ⟨ret_bool (by rw [HZ.out]; rfl), rfl⟩
        · have hq : (x1 == 0) = false := by simpa using h0
          have HZ : Hid ((p.drop (k + 1)).all ptOk = R) := HS.out (by rw [hbt.out, hbx, hq]; rfl)
          clear he hR hth hx hd hb HS HF hbt hbx h0
          go_wp2_with (go_at_call 95; refine (hB.out _).mono ?_; rintro e w' ⟨rfl, rfl⟩)
          go_roundw
          case rel => exact hid ⟨k + 1, by omega, by go_num, HZ, by first | rfl | trivial⟩
          case measure => simp [intOf]; omega
    · have HZ : Hid (ptsOk p = true) := by
        show _ = _
        have := he.out
        rw [List.drop_eq_nil_of_le (by rw [HL.out]; omega)] at this
        rw [hth.out, ← this]; rfl
      clear he hR hth
      go_wp2_with (go_at_call 95; refine (l00In_any _ _ _ _).mono ?_; rintro e w' ⟨rfl, rfl⟩)
      go_ret
      exact ⟨ret_bool (by rw [HZ.out]; rfl), rfl⟩
set_option maxHeartbeats 1000000 in
theorem l06Shape_qat (g o : Nat) (A B : Option Addr) (n c m d : Nat) (p : Psg) (w : World) (hn : n ≤ 1099511627776) (hm : m ≤ 1099511627776) (hx : Bo w g o #[.slice A n c, .slice B m d]) (hr : Rd w w.heap.size 2 A n (ths p.1)) (hs : Rd w w.heap.size 2 B m (ths p.2)) :
    Calls Try.prog 85 #[.pointer (some ⟨g, o, none⟩)] w fun e w' => e = .returned (.bool (psSh p)) ∧ ∃ k, w' = w.drewN k := by
  obtain ⟨a, b⟩ := p
  have hth : Hid (psSh (a, b) = ((ptsOk a && betweenB (n : Int) 1 8) && (ptsOk b && betweenB (m : Int) 1 8) && ((n : Int) == (m : Int)))) := by
    show _ = _
    have h1 := hr.th_len
    have h2 := hs.th_len
    simp only at h1 h2
    rw [Bool.eq_iff_iff, psSh_iff]
    simp only [h1, h2, Bool.and_eq_true, betweenB_iff, beq_iff_eq]
    constructor
    · rintro ⟨h1, h2, h3, h4⟩; exact ⟨⟨⟨h3, by omega⟩, h4, by omega⟩, by omega⟩
    · rintro ⟨⟨⟨h1, h2⟩, h3, h4⟩, h5⟩; exact ⟨by omega, by omega, h1, h3⟩
  have c0 := hx.cell 0
  have c1 := hx.cell 1
  have hgl := hx.lt
  have hP1 := hid (fun k : Nat => l06List_any A n c a (w.drewN k) hn (show Rd (w.drewN k) w.heap.size 2 A n (ths a) from hr))
  have hP2 := hid (fun k : Nat => l06List_any B m d b (w.drewN k) hm (show Rd (w.drewN k) w.heap.size 2 B m (ths b) from hs))
  clear hr hs hx
  replace c0 : w.cell? ⟨g, o, none⟩ = some (.slice A n c) := c0
  replace c1 : w.cell? ⟨g, o + 1, none⟩ = some (.slice B m d) := c1
  cases h1 : (ptsOk a && betweenB (n : Int) 1 8) with
  | false =>
    have HZ : Hid (psSh (a, b) = false) := by show _ = _; rw [hth.out, h1]; rfl
    have hP1 := hid (fun k => by have := hP1.out k; rw [h1] at this; exact this)
    clear hth h1
    go_enter Try.func85, Try.ntmps85
    go_wp2
    go_quiet (first | ((go_at_call 141; exact quiet_same (hP1.out _))))
    go_wp2
    go_ret
    exact ⟨ret_bool HZ.out.symm, _, rfl⟩
  | true =>
    have hP1 := hid (fun k => by have := hP1.out k; rw [h1] at this; exact this)
    cases h2 : (ptsOk b && betweenB (m : Int) 1 8) with
    | false =>
      have HZ : Hid (psSh (a, b) = false) := by show _ = _; rw [hth.out, h1, h2]; rfl
      have hP2 := hid (fun k => by have := hP2.out k; rw [h2] at this; exact this)
      clear hth h1 h2
      go_enter Try.func85, Try.ntmps85
      go_wp2
      go_quiet (first | (go_at_call 141; with_reducible exact quiet_same (hP1.out _)) | (go_at_call 141; with_reducible exact quiet_same (hP2.out _)))
      go_wp2
      go_ret
      exact ⟨ret_bool HZ.out.symm, _, rfl⟩
    | true =>
      have hP2 := hid (fun k => by have := hP2.out k; rw [h2] at this; exact this)
      have HZ : Hid (psSh (a, b) = ((n : Int) == (m : Int))) := by show _ = _; rw [hth.out, h1, h2]; rfl
      clear hth h1 h2
      go_enter Try.func85, Try.ntmps85
      go_wp2
      go_quiet (first | (go_at_call 141; with_reducible exact quiet_same (hP1.out _)) | (go_at_call 141; with_reducible exact quiet_same (hP2.out _)))
      go_wp2
      go_ret
      exact ⟨ret_bool HZ.out.symm, _, rfl⟩
theorem l06Shape_quiet (g : Nat) (A B : Option Addr) (n c m d : Nat) (p : Psg) (w : World) (hn : n ≤ 1099511627776) (hm : m ≤ 1099511627776) (hx : Bx w g 35 #[.slice A n c, .slice B m d]) (hr : Rd w w.heap.size 2 A n (ths p.1)) (hs : Rd w w.heap.size 2 B m (ths p.2)) :
    Calls Try.prog 85 #[.pointer (some ⟨g, 0, none⟩)] w fun e w' => e = .returned (.bool (psSh p)) ∧ ∃ k, w' = w.drewN k := l06Shape_qat g 0 A B n c m d p w hn hm hx.bo hr hs
theorem sameThrows_any (A A' : Option Addr) (n n' c c' : Nat) (xs ys : List PT) (w : World) (hn : n ≤ 1099511627776) (hn' : n' ≤ 1099511627776) (h : Rd w w.heap.size 2 A n (ths xs)) (h' : Rd w w.heap.size 2 A' n' (ths ys)) :
    Calls Try.prog 93 #[.slice A n c, .slice A' n' c'] w fun e w' => e = .returned (.bool (decide (xs = ys))) ∧ Below w.heap.size w w' := by
  have hl := h.th_len
  have hl' := h'.th_len
  by_cases hnn : n = n'
  · subst hnn
    have hst : Hid (decide (xs.drop 0 = ys.drop 0) = decide (xs = ys)) := rfl
    go_enter Try.func93, Try.ntmps93
    go_wp2
    go_loopw [13] (fun i wr => ∃ k : Nat, k ≤ n ∧ i = .int .i64 k ∧ Hid (decide (xs.drop k = ys.drop k) = decide (xs = ys)) ∧ Below w.heap.size w wr) (fun i _ => n - (intOf i).toNat)
    case atStart => exact ⟨0, Nat.zero_le _, rfl, hst, (by repeat' (first | exact Below.refl _ _ | (with_reducible assumption) | (with_reducible refine Below.alloc ?_ ?_ _) | (with_reducible refine Below.setCell ?_ ?_ _) | (with_reducible refine Below.drew ?_) | (with_reducible refine below_drewN ?_ _) | (refine Below.trans ?_ (Below.mono (by assumption) ?_)) | (with_reducible exact Nat.le_refl _) | (with_reducible assumption) | (exact Below.size (by assumption)) | omega | go_size | (simp at *; omega)))⟩
    case round =>
    obtain ⟨k, hk, rfl, he, hb0⟩ := hrel
    by_cases hlt : k < n
    · obtain ⟨b, off, x, rfl, hb, hx, hd, c0, c1⟩ := (h.below hb0 (Nat.le_refl _)).th_at hlt
      obtain ⟨b', off', x', rfl, hb', hx', hd', d0, d1⟩ := (h'.below hb0 (Nat.le_refl _)).th_at hlt
      obtain ⟨x1, x2⟩ := x
      obtain ⟨y1, y2⟩ := x'
      by_cases hxx : ((x1, x2) : PT) = (y1, y2)
      · have HZ : Hid (decide (xs.drop (k + 1) = ys.drop (k + 1)) = decide (xs = ys)) := by
          show _ = _
          rw [← he.out, hd, hd', hxx]; simp
        injection hxx with h1 h2
        subst h1 h2
        clear hx hx' hd hd' he hst h h' hb hb' hl hl'
        go_wp2
        go_quiet (fail)
        go_wp2
        go_roundw
        case rel => exact ⟨k + 1, by omega, by go_num, HZ, (by repeat' (first | exact Below.refl _ _ | (with_reducible assumption) | (with_reducible refine Below.alloc ?_ ?_ _) | (with_reducible refine Below.setCell ?_ ?_ _) | (with_reducible refine Below.drew ?_) | (with_reducible refine below_drewN ?_ _) | (refine Below.trans ?_ (Below.mono (by assumption) ?_)) | (with_reducible exact Nat.le_refl _) | (with_reducible assumption) | (exact Below.size (by assumption)) | omega | go_size | (simp at *; omega)))⟩
        case measure => simp [intOf]; omega
      · have HZ : Hid (decide (xs = ys) = false) := by
          show _ = _
          rw [← he.out, hd, hd']
          refine decide_eq_false fun e => hxx ?_
          injection e
        rcases th_ne hxx with h1 | ⟨h1, h2⟩
        · have hq : (x1 == y1) = false := by simpa using h1
          clear hx hx' hd hd' he hst h h' hb hb' hl hl' hxx h1
          go_wp2
          go_quiet (fail)
          go_wp2
          go_ret
          exact ⟨ret_bool HZ.out.symm, (by repeat' (first | exact Below.refl _ _ | (with_reducible assumption) | (with_reducible refine Below.alloc ?_ ?_ _) | (with_reducible refine Below.setCell ?_ ?_ _) | (with_reducible refine Below.drew ?_) | (with_reducible refine below_drewN ?_ _) | (refine Below.trans ?_ (Below.mono (by assumption) ?_)) | (with_reducible exact Nat.le_refl _) | (with_reducible assumption) | (exact Below.size (by assumption)) | omega | go_size | (simp at *; omega)))⟩
        · have hq : (x2 == y2) = false := by simpa using h2
          subst h1
          clear hx hx' hd hd' he hst h h' hb hb' hl hl' hxx h2
          go_wp2
          go_quiet (fail)
          go_wp2
          go_ret
          exact ⟨ret_bool HZ.out.symm, (by repeat' (first | exact Below.refl _ _ | (with_reducible assumption) | (with_reducible refine Below.alloc ?_ ?_ _) | (with_reducible refine Below.setCell ?_ ?_ _) | (with_reducible refine Below.drew ?_) | (with_reducible refine below_drewN ?_ _) | (refine Below.trans ?_ (Below.mono (by assumption) ?_)) | (with_reducible exact Nat.le_refl _) | (with_reducible assumption) | (exact Below.size (by assumption)) | omega | go_size | (simp at *; omega)))⟩
    · have HZ : Hid (decide (xs = ys) = true) := by
        show _ = _
        rw [← he.out, List.drop_eq_nil_of_le (by omega), List.drop_eq_nil_of_le (by omega)]; rfl
      clear he hst hl hl' h h'
      go_wp2
      go_ret
      exact ⟨ret_bool HZ.out.symm, (by repeat' (first | exact Below.refl _ _ | (with_reducible assumption) | (with_reducible refine Below.alloc ?_ ?_ _) | (with_reducible refine Below.setCell ?_ ?_ _) | (with_reducible refine Below.drew ?_) | (with_reducible refine below_drewN ?_ _) | (refine Below.trans ?_ (Below.mono (by assumption) ?_)) | (with_reducible exact Nat.le_refl _) | (with_reducible assumption) | (exact Below.size (by assumption)) | omega | go_size | (simp at *; omega)))⟩
  · have HZ : Hid (decide (xs = ys) = false) := by
      show _ = _
      refine decide_eq_false fun e => hnn ?_
      rw [← hl, ← hl', e]
    clear hl hl' h h'
    go_enter Try.func93, Try.ntmps93
    go_wp2
    go_ret
    exact ⟨ret_bool HZ.out.symm, (by repeat' (first | exact Below.refl _ _ | (with_reducible assumption) | (with_reducible refine Below.alloc ?_ ?_ _) | (with_reducible refine Below.setCell ?_ ?_ _) | (with_reducible refine Below.drew ?_) | (with_reducible refine below_drewN ?_ _) | (refine Below.trans ?_ (Below.mono (by assumption) ?_)) | (with_reducible exact Nat.le_refl _) | (with_reducible assumption) | (exact Below.size (by assumption)) | omega | go_size | (simp at *; omega)))⟩
theorem l06Same_any (A A' : Option Addr) (n n' c c' : Nat) (xs ys : List PT) (w : World) (hn : n ≤ 1099511627776) (hn' : n' ≤ 1099511627776) (h : Rd w w.heap.size 2 A n (ths xs)) (h' : Rd w w.heap.size 2 A' n' (ths ys)) :
    Calls Try.prog 92 #[.slice A n c, .slice A' n' c'] w fun e w' => e = .returned (.bool (decide (xs = ys))) ∧ Below w.heap.size w w' := by
  have hl := h.th_len
  have hl' := h'.th_len
  by_cases hnn : n = n'
  · subst hnn
    have hst : Hid (decide (xs.drop 0 = ys.drop 0) = decide (xs = ys)) := rfl
    go_enter Try.func92, Try.ntmps92
    go_wp2
    go_loopw [5] (fun i wr => ∃ k : Nat, k ≤ n ∧ i = .int .i64 k ∧ Hid (decide (xs.drop k = ys.drop k) = decide (xs = ys)) ∧ Below w.heap.size w wr) (fun i _ => n - (intOf i).toNat)
    case atStart => exact ⟨0, Nat.zero_le _, rfl, hst, (by repeat' (first | exact Below.refl _ _ | (with_reducible assumption) | (with_reducible refine Below.alloc ?_ ?_ _) | (with_reducible refine Below.setCell ?_ ?_ _) | (with_reducible refine Below.drew ?_) | (with_reducible refine below_drewN ?_ _) | (refine Below.trans ?_ (Below.mono (by assumption) ?_)) | (with_reducible exact Nat.le_refl _) | (with_reducible assumption) | (exact Below.size (by assumption)) | omega | go_size | (simp at *; omega)))⟩
    case round =>
    obtain ⟨k, hk, rfl, he, hb0⟩ := hrel
    by_cases hlt : k < n
    · obtain ⟨b, off, x, rfl, hb, hx, hd, c0, c1⟩ := (h.below hb0 (Nat.le_refl _)).th_at hlt
      obtain ⟨b', off', x', rfl, hb', hx', hd', d0, d1⟩ := (h'.below hb0 (Nat.le_refl _)).th_at hlt
      obtain ⟨x1, x2⟩ := x
      obtain ⟨y1, y2⟩ := x'
      by_cases hxx : ((x1, x2) : PT) = (y1, y2)
      · have HZ : Hid (decide (xs.drop (k + 1) = ys.drop (k + 1)) = decide (xs = ys)) := by
          show _ = _
          rw [← he.out, hd, hd', hxx]; simp
        injection hxx with h1 h2
        subst h1 h2
        clear hx hx' hd hd' he hst h h' hb hb' hl hl'
        go_wp2
        go_quiet (fail)
        go_wp2
        go_roundw
        case rel => exact ⟨k + 1, by omega, by go_num, HZ, (by repeat' (first | exact Below.refl _ _ | (with_reducible assumption) | (with_reducible refine Below.alloc ?_ ?_ _) | (with_reducible refine Below.setCell ?_ ?_ _) | (with_reducible refine Below.drew ?_) | (with_reducible refine below_drewN ?_ _) | (refine Below.trans ?_ (Below.mono (by assumption) ?_)) | (with_reducible exact Nat.le_refl _) | (with_reducible assumption) | (exact Below.size (by assumption)) | omega | go_size | (simp at *; omega)))⟩
        case measure => simp [intOf]; omega
      · have HZ : Hid (decide (xs = ys) = false) := by
          show _ = _
          rw [← he.out, hd, hd']
          refine decide_eq_false fun e => hxx ?_
          injection e
        rcases th_ne hxx with h1 | ⟨h1, h2⟩
        · have hq : (x1 == y1) = false := by simpa using h1
          clear hx hx' hd hd' he hst h h' hb hb' hl hl' hxx h1
          go_wp2
          go_quiet (fail)
          go_wp2
          go_ret
          exact ⟨ret_bool HZ.out.symm, (by repeat' (first | exact Below.refl _ _ | (with_reducible assumption) | (with_reducible refine Below.alloc ?_ ?_ _) | (with_reducible refine Below.setCell ?_ ?_ _) | (with_reducible refine Below.drew ?_) | (with_reducible refine below_drewN ?_ _) | (refine Below.trans ?_ (Below.mono (by assumption) ?_)) | (with_reducible exact Nat.le_refl _) | (with_reducible assumption) | (exact Below.size (by assumption)) | omega | go_size | (simp at *; omega)))⟩
        · have hq : (x2 == y2) = false := by simpa using h2
          subst h1
          clear hx hx' hd hd' he hst h h' hb hb' hl hl' hxx h2
          go_wp2
          go_quiet (fail)
          go_wp2
          go_ret
          exact ⟨ret_bool HZ.out.symm, (by repeat' (first | exact Below.refl _ _ | (with_reducible assumption) | (with_reducible refine Below.alloc ?_ ?_ _) | (with_reducible refine Below.setCell ?_ ?_ _) | (with_reducible refine Below.drew ?_) | (with_reducible refine below_drewN ?_ _) | (refine Below.trans ?_ (Below.mono (by assumption) ?_)) | (with_reducible exact Nat.le_refl _) | (with_reducible assumption) | (exact Below.size (by assumption)) | omega | go_size | (simp at *; omega)))⟩
    · have HZ : Hid (decide (xs = ys) = true) := by
        show _ = _
        rw [← he.out, List.drop_eq_nil_of_le (by omega), List.drop_eq_nil_of_le (by omega)]; rfl
      clear he hst hl hl' h h'
      go_wp2
      go_ret
      exact ⟨ret_bool HZ.out.symm, (by repeat' (first | exact Below.refl _ _ | (with_reducible assumption) | (with_reducible refine Below.alloc ?_ ?_ _) | (with_reducible refine Below.setCell ?_ ?_ _) | (with_reducible refine Below.drew ?_) | (with_reducible refine below_drewN ?_ _) | (refine Below.trans ?_ (Below.mono (by assumption) ?_)) | (with_reducible exact Nat.le_refl _) | (with_reducible assumption) | (exact Below.size (by assumption)) | omega | go_size | (simp at *; omega)))⟩
  · have HZ : Hid (decide (xs = ys) = false) := by
      show _ = _
      refine decide_eq_false fun e => hnn ?_
      rw [← hl, ← hl', e]
    clear hl hl' h h'
    go_enter Try.func92, Try.ntmps92
    go_wp2
    go_ret
    exact ⟨ret_bool HZ.out.symm, (by repeat' (first | exact Below.refl _ _ | (with_reducible assumption) | (with_reducible refine Below.alloc ?_ ?_ _) | (with_reducible refine Below.setCell ?_ ?_ _) | (with_reducible refine Below.drew ?_) | (with_reducible refine below_drewN ?_ _) | (refine Below.trans ?_ (Below.mono (by assumption) ?_)) | (with_reducible exact Nat.le_refl _) | (with_reducible assumption) | (exact Below.size (by assumption)) | omega | go_size | (simp at *; omega)))⟩
theorem SamePassing_any (A B A' B' : Option Addr) (n c m d n' c' m' d' : Nat) (p q : Psg) (w : World) (hn : n ≤ 1099511627776) (hm : m ≤ 1099511627776) (hn' : n' ≤ 1099511627776) (hm' : m' ≤ 1099511627776)
    (h1 : Rd w w.heap.size 2 A n (ths p.1)) (h2 : Rd w w.heap.size 2 B m (ths p.2)) (h3 : Rd w w.heap.size 2 A' n' (ths q.1)) (h4 : Rd w w.heap.size 2 B' m' (ths q.2)) :
    Calls Try.prog 25 #[.agg #[.slice A n c, .slice B m d], .agg #[.slice A' n' c', .slice B' m' d']] w fun e w' => e = .returned (.bool (decide (p = q))) ∧ Below w.heap.size w w' := by
  obtain ⟨a, b⟩ := p
  obtain ⟨a', b'⟩ := q
  have hth : Hid (decide (((a, b) : Psg) = (a', b')) = (decide (a = a') && decide (b = b'))) := by
    show _ = _
    rw [Bool.eq_iff_iff]; simp
  have hbx : Below w.heap.size w ((w.alloc (Obj.cells #[.slice A n c, .slice B m d] 35)).alloc (Obj.cells #[.slice A' n' c', .slice B' m' d'] 35)) := (by repeat' (first | exact Below.refl _ _ | (with_reducible assumption) | (with_reducible refine Below.alloc ?_ ?_ _) | (with_reducible refine Below.setCell ?_ ?_ _) | (with_reducible refine Below.drew ?_) | (with_reducible refine below_drewN ?_ _) | (refine Below.trans ?_ (Below.mono (by assumption) ?_)) | (with_reducible exact Nat.le_refl _) | (with_reducible assumption) | (exact Below.size (by assumption)) | omega | go_size | (simp at *; omega)))
  have hC := sameThrows_any A A' n n' c c' a a' _ hn hn' ((h1.below hbx (Nat.le_refl _)).more hbx.size) ((h3.below hbx (Nat.le_refl _)).more hbx.size)
  have hP2 := hid (fun (w1 : World) (hb : Below w.heap.size w w1) => sameThrows_any B B' m m' d d' b b' w1 hm hm' ((h2.below hb (Nat.le_refl _)).more hb.size) ((h4.below hb (Nat.le_refl _)).more hb.size))
  clear h1 h2 h3 h4
  cases ha : decide (a = a') with
  | false =>
    have HZ : Hid (decide (((a, b) : Psg) = (a', b')) = false) := by show _ = _; rw [hth.out, ha]; rfl
    rw [ha] at hC
    have hC := hid hC
    clear hth ha hP2
    go_enter Try.func25, Try.ntmps25
    go_wp2_with fail
    refine hC.out.mono ?_
    rintro e w1 ⟨rfl, hb1⟩
    go_wp2
    go_ret
    exact ⟨ret_bool HZ.out.symm, (by repeat' (first | exact Below.refl _ _ | (with_reducible assumption) | (with_reducible refine Below.alloc ?_ ?_ _) | (with_reducible refine Below.setCell ?_ ?_ _) | (with_reducible refine Below.drew ?_) | (with_reducible refine below_drewN ?_ _) | (refine Below.trans ?_ (Below.mono (by assumption) ?_)) | (with_reducible exact Nat.le_refl _) | (with_reducible assumption) | (exact Below.size (by assumption)) | omega | go_size | (simp at *; omega)))⟩
  | true =>
    have HZ : Hid (decide (((a, b) : Psg) = (a', b')) = decide (b = b')) := by show _ = _; rw [hth.out, ha]; rfl
    rw [ha] at hC
    have hC := hid hC
    clear hth ha
    go_enter Try.func25, Try.ntmps25
    go_wp2_with fail
    refine hC.out.mono ?_
    rintro e w1 ⟨rfl, hb1⟩
    obtain ⟨hc1, hf1, hz1, hl1⟩ := bcell hb1
    have hB1 : Below w.heap.size w w1 := (by repeat' (first | exact Below.refl _ _ | (with_reducible assumption) | (with_reducible refine Below.alloc ?_ ?_ _) | (with_reducible refine Below.setCell ?_ ?_ _) | (with_reducible refine Below.drew ?_) | (with_reducible refine below_drewN ?_ _) | (refine Below.trans ?_ (Below.mono (by assumption) ?_)) | (with_reducible exact Nat.le_refl _) | (with_reducible assumption) | (exact Below.size (by assumption)) | omega | go_size | (simp at *; omega)))
    have hD := hid (hP2.out _ hB1)
    clear hP2 hC
    go_wp2_with fail
    refine hD.out.mono ?_
    rintro e w2 ⟨rfl, hb2⟩
    clear hD
    go_wp2
    go_ret
    exact ⟨ret_bool HZ.out.symm, (by repeat' (first | exact Below.refl _ _ | (with_reducible assumption) | (with_reducible refine Below.alloc ?_ ?_ _) | (with_reducible refine Below.setCell ?_ ?_ _) | (with_reducible refine Below.drew ?_) | (with_reducible refine below_drewN ?_ _) | (refine Below.trans ?_ (Below.mono (by assumption) ?_)) | (with_reducible exact Nat.le_refl _) | (with_reducible assumption) | (exact Below.size (by assumption)) | omega | go_size | (simp at *; omega)))⟩
theorem specSamePassing_any (A B A' B' : Option Addr) (n c m d n' c' m' d' : Nat) (p q : Psg) (w : World) (hn : n ≤ 1099511627776) (hm : m ≤ 1099511627776) (hn' : n' ≤ 1099511627776) (hm' : m' ≤ 1099511627776)
    (h1 : Rd w w.heap.size 2 A n (ths p.1)) (h2 : Rd w w.heap.size 2 B m (ths p.2)) (h3 : Rd w w.heap.size 2 A' n' (ths q.1)) (h4 : Rd w w.heap.size 2 B' m' (ths q.2)) :
    Calls Try.prog 24 #[.agg #[.slice A n c, .slice B m d], .agg #[.slice A' n' c', .slice B' m' d']] w fun e w' => e = .returned (.bool (decide (p = q))) ∧ Below w.heap.size w w' := by
  obtain ⟨a, b⟩ := p
  obtain ⟨a', b'⟩ := q
  have hth : Hid (decide (((a, b) : Psg) = (a', b')) = (decide (a = a') && decide (b = b'))) := by
    show _ = _
    rw [Bool.eq_iff_iff]; simp
  have hbx : Below w.heap.size w ((w.alloc (Obj.cells #[.slice A n c, .slice B m d] 35)).alloc (Obj.cells #[.slice A' n' c', .slice B' m' d'] 35)) := (by repeat' (first | exact Below.refl _ _ | (with_reducible assumption) | (with_reducible refine Below.alloc ?_ ?_ _) | (with_reducible refine Below.setCell ?_ ?_ _) | (with_reducible refine Below.drew ?_) | (with_reducible refine below_drewN ?_ _) | (refine Below.trans ?_ (Below.mono (by assumption) ?_)) | (with_reducible exact Nat.le_refl _) | (with_reducible assumption) | (exact Below.size (by assumption)) | omega | go_size | (simp at *; omega)))
  have hC := l06Same_any A A' n n' c c' a a' _ hn hn' ((h1.below hbx (Nat.le_refl _)).more hbx.size) ((h3.below hbx (Nat.le_refl _)).more hbx.size)
  have hP2 := hid (fun (w1 : World) (hb : Below w.heap.size w w1) => l06Same_any B B' m m' d d' b b' w1 hm hm' ((h2.below hb (Nat.le_refl _)).more hb.size) ((h4.below hb (Nat.le_refl _)).more hb.size))
  clear h1 h2 h3 h4
  cases ha : decide (a = a') with
  | false =>
    have HZ : Hid (decide (((a, b) : Psg) = (a', b')) = false) := by show _ = _; rw [hth.out, ha]; rfl
    rw [ha] at hC
    have hC := hid hC
    clear hth ha hP2
    go_enter Try.func24, Try.ntmps24
    go_wp2_with fail
    refine hC.out.mono ?_
    rintro e w1 ⟨rfl, hb1⟩
    go_wp2
    go_ret
    exact ⟨ret_bool HZ.out.symm, (by repeat' (first | exact Below.refl _ _ | (with_reducible assumption) | (with_reducible refine Below.alloc ?_ ?_ _) | (with_reducible refine Below.setCell ?_ ?_ _) | (with_reducible refine Below.drew ?_) | (with_reducible refine below_drewN ?_ _) | (refine Below.trans ?_ (Below.mono (by assumption) ?_)) | (with_reducible exact Nat.le_refl _) | (with_reducible assumption) | (exact Below.size (by assumption)) | omega | go_size | (simp at *; omega)))⟩
  | true =>
    have HZ : Hid (decide (((a, b) : Psg) = (a', b')) = decide (b = b')) := by show _ = _; rw [hth.out, ha]; rfl
    rw [ha] at hC
    have hC := hid hC
    clear hth ha
    go_enter Try.func24, Try.ntmps24
    go_wp2_with fail
    refine hC.out.mono ?_
    rintro e w1 ⟨rfl, hb1⟩
    obtain ⟨hc1, hf1, hz1, hl1⟩ := bcell hb1
    have hB1 : Below w.heap.size w w1 := (by repeat' (first | exact Below.refl _ _ | (with_reducible assumption) | (with_reducible refine Below.alloc ?_ ?_ _) | (with_reducible refine Below.setCell ?_ ?_ _) | (with_reducible refine Below.drew ?_) | (with_reducible refine below_drewN ?_ _) | (refine Below.trans ?_ (Below.mono (by assumption) ?_)) | (with_reducible exact Nat.le_refl _) | (with_reducible assumption) | (exact Below.size (by assumption)) | omega | go_size | (simp at *; omega)))
    have hD := hid (hP2.out _ hB1)
    clear hP2 hC
    go_wp2_with fail
    refine hD.out.mono ?_
    rintro e w2 ⟨rfl, hb2⟩
    clear hD
    go_wp2
    go_ret
    exact ⟨ret_bool HZ.out.symm, (by repeat' (first | exact Below.refl _ _ | (with_reducible assumption) | (with_reducible refine Below.alloc ?_ ?_ _) | (with_reducible refine Below.setCell ?_ ?_ _) | (with_reducible refine Below.drew ?_) | (with_reducible refine below_drewN ?_ _) | (refine Below.trans ?_ (Below.mono (by assumption) ?_)) | (with_reducible exact Nat.le_refl _) | (with_reducible assumption) | (exact Below.size (by assumption)) | omega | go_size | (simp at *; omega)))⟩
end Go.Proofs.Ytlbhfjbbkkkldaa
