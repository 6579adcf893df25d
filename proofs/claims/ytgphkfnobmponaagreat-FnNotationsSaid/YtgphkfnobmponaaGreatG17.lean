/- Several texts in one: Qa, Yo. -/
import Derived.Test.YtgphkfnobmponaaGreatG02
import Derived.Test.YtgphkfnobmponaaGreatQs
import Derived.Test.YtgphkfnobmponaaGreatG03
import Derived.Deep.RegionHeld3
import Derived.Deep.QuietTactic
import Derived.BigQuiet
import Derived.Test.YtgphkfnobmponaaGreatG11
import Derived.Test.YtgphkfnobmponaaGreatG14
import Derived.Test.YtgphkfnobmponaaGreatG09
import Derived.Test.YtgphkfnobmponaaGreatProg
import Derived.Test.YtgphkfnobmponaaGreatG01
import Derived.Test.YtgphkfnobmponaaGreatG06
import Derived.Test.YtgphkfnobmponaaGreatG04
import Derived.Test.YtgphkfnobmponaaGreatG05
import Derived.BigRegion
import Derived.StillTailTactics
import Derived.Deep.RegionWith
import Derived.IntWalk
import Derived.Deep.LoopGhost
import Derived.Deep.DeepCutAuto
/- Contracts of the functions that check passing patterns: forms, equality. -/
namespace Go.Proofs.YtgphkfnobmponaaGreat
open Go.RowKit
set_option linter.unusedVariables false

theorem allq_step {α : Type} {f : α → Bool} {p : List α} {k : Nat} {x : α} {R : Bool} (he : (p.drop k).all f = R) (hd : p.drop k = x :: p.drop (k + 1)) (h : f x = true) : (p.drop (k + 1)).all f = R := by
  rw [hd, List.all_cons, h, Bool.true_and] at he; exact he
theorem allq_stop {α : Type} {f : α → Bool} {p : List α} {k : Nat} {x : α} {R : Bool} (he : (p.drop k).all f = R) (hd : p.drop k = x :: p.drop (k + 1)) (h : f x = false) : R = false := by
  rw [hd, List.all_cons, h, Bool.false_and] at he; exact he.symm
theorem arePasses_any (A : Option Addr) (n c : Nat) (p : List PT) (w : World) (hn : n ≤ 1099511627776) (hr : Rd w w.heap.size 2 A n (ths p)) :
    Calls Tryz.prog 135 #[.slice A n c] w fun e w' => e = .returned (.bool (ptsOk p)) ∧ Below w.heap.size w w' := by
  have hlen := hr.th_len
  obtain ⟨R, hR⟩ : ∃ R, (p.drop 0).all ptOk = R := ⟨_, rfl⟩
  have hth : Hid (ptsOk p = R) := by show _ = _; rw [← hR]; rfl
  have hR := hid hR
  have HR := hid hr
  have HL := hid hlen
  clear hr hlen
  go_enter Tryz.func135, Tryz.ntmps135
  go_wp2
  go_loopw [7] (fun i wr => Hid (∃ k : Nat, k ≤ n ∧ i = .int .i64 k ∧ Hid ((p.drop k).all ptOk = R) ∧ Below w.heap.size w wr)) (fun i _ => n - (intOf i).toNat)
  case atStart => exact hid ⟨0, Nat.zero_le _, rfl, hR, (by repeat' (first | exact Below.refl _ _ | (with_reducible first | assumption | exact Nat.le_refl _ | refine Below.alloc ?_ ?_ _ | refine Below.setCell ?_ ?_ _ | refine Below.drew ?_ | refine below_drewN ?_ _) | refine Below.trans ?_ (Below.mono (by assumption) ?_) | exact Below.size (by assumption) | omega | go_size | (simp at *; omega)))⟩
  case round =>
    obtain ⟨k, hk, rfl, he, hb0⟩ := hrel.out
    have hz := hb0.size
    clear hrel
    by_cases hlt : k < n
    · obtain ⟨b, off, x, rfl, hb, hx, hd, c0, c1⟩ := (HR.out.below hb0 (Nat.le_refl _)).th_at hlt
      obtain ⟨x1, x2⟩ := x
      have hbw : b < wr.heap.size := by omega
      have hbt : Hid (ptOk (x1, x2) = (betweenB x1 0 15 && !(x1 == 0 && x2))) := rfl
      have HS := hid (fun h => allq_step he.out hd (x := ((x1, x2) : PT)) h)
      have HF := hid (fun h => allq_stop he.out hd (x := ((x1, x2) : PT)) h)
      cases hbx : betweenB x1 0 15 with
      | false =>
        have HZ : Hid (ptsOk p = false) := by show _ = _; rw [hth.out, HF.out (by rw [hbt.out, hbx]; rfl)]
        have hB := hid (fun w1 => by have := between_any x1 0 15 w1; rw [hbx] at this; exact this)
        clear he hR hth hx hd hb HS HF hbt hbx
        go_wp2_with (go_at_call 55; refine (hB.out _).mono ?_; rintro e w' ⟨rfl, rfl⟩)
        go_ret
        exact ⟨ret_bool HZ.out.symm, (by repeat' (first | exact Below.refl _ _ | (with_reducible first | assumption | exact Nat.le_refl _ | refine Below.alloc ?_ ?_ _ | refine Below.setCell ?_ ?_ _ | refine Below.drew ?_ | refine below_drewN ?_ _) | refine Below.trans ?_ (Below.mono (by assumption) ?_) | exact Below.size (by assumption) | omega | go_size | (simp at *; omega)))⟩
      | true =>
        have hB := hid (fun w1 => by have := between_any x1 0 15 w1; rw [hbx] at this; exact this)
        by_cases h0 : x1 = 0
        · subst h0
          cases x2
          · have HZ : Hid ((p.drop (k + 1)).all ptOk = R) := HS.out (by rw [hbt.out, hbx]; rfl)
            clear he hR hth hx hd hb HS HF hbt hbx
            go_wp2_with (go_at_call 55; refine (hB.out _).mono ?_; rintro e w' ⟨rfl, rfl⟩)
            go_roundw
            case rel => exact hid ⟨k + 1, by omega, by go_num, HZ, (by repeat' (first | exact Below.refl _ _ | (with_reducible first | assumption | exact Nat.le_refl _ | refine Below.alloc ?_ ?_ _ | refine Below.setCell ?_ ?_ _ | refine Below.drew ?_ | refine below_drewN ?_ _) | refine Below.trans ?_ (Below.mono (by assumption) ?_) | exact Below.size (by assumption) | omega | go_size | (simp at *; omega)))⟩
            case measure => simp [intOf]; omega
          · have HZ : Hid (ptsOk p = false) := by show _ = _; rw [hth.out, HF.out (by rw [hbt.out, hbx]; rfl)]
            clear he hR hth hx hd hb HS HF hbt hbx
            go_wp2_with (go_at_call 55; refine (hB.out _).mono ?_; rintro e w' ⟨rfl, rfl⟩)
            go_ret
            exact ⟨ret_bool HZ.out.symm, (by repeat' (first | exact Below.refl _ _ | (with_reducible first | assumption | exact Nat.le_refl _ | refine Below.alloc ?_ ?_ _ | refine Below.setCell ?_ ?_ _ | refine Below.drew ?_ | refine below_drewN ?_ _) | refine Below.trans ?_ (Below.mono (by assumption) ?_) | exact Below.size (by assumption) | omega | go_size | (simp at *; omega)))⟩
        · have hq : (x1 == 0) = false := by simpa using h0
          have HZ : Hid ((p.drop (k + 1)).all ptOk = R) := HS.out (by rw [hbt.out, hbx, hq]; rfl)
          clear he hR hth hx hd hb HS HF hbt hbx h0
          go_wp2_with (go_at_call 55; refine (hB.out _).mono ?_; rintro e w' ⟨rfl, rfl⟩)
          go_roundw
          case rel => exact hid ⟨k + 1, by omega, by go_num, HZ, (by repeat' (first | exact Below.refl _ _ | (with_reducible first | assumption | exact Nat.le_refl _ | refine Below.alloc ?_ ?_ _ | refine Below.setCell ?_ ?_ _ | refine Below.drew ?_ | refine below_drewN ?_ _) | refine Below.trans ?_ (Below.mono (by assumption) ?_) | exact Below.size (by assumption) | omega | go_size | (simp at *; omega)))⟩
          case measure => simp [intOf]; omega
    · have HZ : Hid (ptsOk p = true) := by
        show _ = _
        have := he.out
        rw [List.drop_eq_nil_of_le (by rw [HL.out]; omega)] at this
        rw [hth.out, ← this]; rfl
      clear he hR hth
      go_wp2
      go_ret
      exact ⟨ret_bool HZ.out.symm, (by repeat' (first | exact Below.refl _ _ | (with_reducible first | assumption | exact Nat.le_refl _ | refine Below.alloc ?_ ?_ _ | refine Below.setCell ?_ ?_ _ | refine Below.drew ?_ | refine below_drewN ?_ _) | refine Below.trans ?_ (Below.mono (by assumption) ?_) | exact Below.size (by assumption) | omega | go_size | (simp at *; omega)))⟩
theorem isPassingForm_any (A B : Option Addr) (n c m d : Nat) (p : Psg) (w : World) (hn : n ≤ 1099511627776) (hm : m ≤ 1099511627776) (hr : Rd w w.heap.size 2 A n (ths p.1)) (hs : Rd w w.heap.size 2 B m (ths p.2)) :
    Calls Tryz.prog 103 #[.agg #[.slice A n c, .slice B m d]] w fun e w' => e = .returned (.bool (psSh p)) ∧ Below w.heap.size w w' := by
  obtain ⟨a, b⟩ := p
  have hth : Hid (psSh (a, b) = (betweenB (n : Int) 1 8 && ((n : Int) == (m : Int)) && ptsOk a && ptsOk b)) := by
    show _ = _
    have h1 := hr.th_len
    have h2 := hs.th_len
    simp only at h1 h2
    unfold psSh
    simp only [h1, h2]
    congr 3
    rw [Bool.eq_iff_iff, beq_iff_eq, beq_iff_eq]; omega
  have hP1 := hid (fun (w1 : World) (hb : Below w.heap.size w w1) => arePasses_any A n c a w1 hn ((hr.below hb (Nat.le_refl _)).more hb.size))
  have hP2 := hid (fun (w1 : World) (hb : Below w.heap.size w w1) => arePasses_any B m d b w1 hm ((hs.below hb (Nat.le_refl _)).more hb.size))
  clear hr hs
  have hBx : Below w.heap.size w (w.alloc (Obj.cells #[.slice A n c, .slice B m d] 31)) := (by repeat' (first | exact Below.refl _ _ | (with_reducible first | assumption | exact Nat.le_refl _ | refine Below.alloc ?_ ?_ _ | refine Below.setCell ?_ ?_ _ | refine Below.drew ?_ | refine below_drewN ?_ _) | refine Below.trans ?_ (Below.mono (by assumption) ?_) | exact Below.size (by assumption) | omega | go_size | (simp at *; omega)))
  have hB := hid (fun w1 => between_any (n : Int) 1 8 w1)
  cases h1 : betweenB (n : Int) 1 8 with
  | false =>
    have HZ : Hid (psSh (a, b) = false) := by show _ = _; rw [hth.out, h1]; rfl
    have hB := hid (fun w1 => by have := hB.out w1; rw [h1] at this; exact this)
    clear h1 hth hP1 hP2
    go_enter Tryz.func103, Tryz.ntmps103
    go_wp2_with (go_at_call 55; refine (hB.out _).mono ?_; rintro e w' ⟨rfl, rfl⟩)
    go_ret
    exact ⟨ret_bool HZ.out.symm, (by repeat' (first | exact Below.refl _ _ | (with_reducible first | assumption | exact Nat.le_refl _ | refine Below.alloc ?_ ?_ _ | refine Below.setCell ?_ ?_ _ | refine Below.drew ?_ | refine below_drewN ?_ _) | refine Below.trans ?_ (Below.mono (by assumption) ?_) | exact Below.size (by assumption) | omega | go_size | (simp at *; omega)))⟩
  | true =>
    have hB := hid (fun w1 => by have := hB.out w1; rw [h1] at this; exact this)
    by_cases h2 : n = m
    · have hq : ((n : Int) == (m : Int)) = true := by rw [h2]; simp
      cases h3 : ptsOk a with
      | false =>
        have HZ : Hid (psSh (a, b) = false) := by show _ = _; rw [hth.out, h1, hq, h3]; rfl
        have hC := hP1.out _ hBx
        rw [h3] at hC
        have hC := hid hC
        clear h1 hth hP1 hP2 h2 h3
        go_enter Tryz.func103, Tryz.ntmps103
        go_wp2_with (go_at_call 55; refine (hB.out _).mono ?_; rintro e w' ⟨rfl, rfl⟩)
        refine hC.out.mono ?_
        rintro e w1 ⟨rfl, hb1⟩
        go_wp2
        go_ret
        exact ⟨ret_bool HZ.out.symm, (by repeat' (first | exact Below.refl _ _ | (with_reducible first | assumption | exact Nat.le_refl _ | refine Below.alloc ?_ ?_ _ | refine Below.setCell ?_ ?_ _ | refine Below.drew ?_ | refine below_drewN ?_ _) | refine Below.trans ?_ (Below.mono (by assumption) ?_) | exact Below.size (by assumption) | omega | go_size | (simp at *; omega)))⟩
      | true =>
        have HZ : Hid (psSh (a, b) = ptsOk b) := by show _ = _; rw [hth.out, h1, hq, h3]; rfl
        have hC := hP1.out _ hBx
        rw [h3] at hC
        have hC := hid hC
        clear h1 hth hP1 h2 h3
        go_enter Tryz.func103, Tryz.ntmps103
        go_wp2_with (go_at_call 55; refine (hB.out _).mono ?_; rintro e w' ⟨rfl, rfl⟩)
        refine hC.out.mono ?_
        rintro e w1 ⟨rfl, hb1⟩
        obtain ⟨hc1, hf1, hz1, hl1⟩ := bcell hb1
        have hB1 : Below w.heap.size w w1 := (by repeat' (first | exact Below.refl _ _ | (with_reducible first | assumption | exact Nat.le_refl _ | refine Below.alloc ?_ ?_ _ | refine Below.setCell ?_ ?_ _ | refine Below.drew ?_ | refine below_drewN ?_ _) | refine Below.trans ?_ (Below.mono (by assumption) ?_) | exact Below.size (by assumption) | omega | go_size | (simp at *; omega)))
        have hD := hid (hP2.out _ hB1)
        clear hP2 hC
        go_wp2_with fail
        refine hD.out.mono ?_
        rintro e w2 ⟨rfl, hb2⟩
        clear hD
        go_wp2
        go_ret
        exact ⟨ret_bool HZ.out.symm, (by repeat' (first | exact Below.refl _ _ | (with_reducible first | assumption | exact Nat.le_refl _ | refine Below.alloc ?_ ?_ _ | refine Below.setCell ?_ ?_ _ | refine Below.drew ?_ | refine below_drewN ?_ _) | refine Below.trans ?_ (Below.mono (by assumption) ?_) | exact Below.size (by assumption) | omega | go_size | (simp at *; omega)))⟩
    · have hq : ((n : Int) == (m : Int)) = false := by simp; omega
      have HZ : Hid (psSh (a, b) = false) := by show _ = _; rw [hth.out, h1, hq]; rfl
      clear h1 hth hP1 hP2 h2
      go_enter Tryz.func103, Tryz.ntmps103
      go_wp2_with (go_at_call 55; refine (hB.out _).mono ?_; rintro e w' ⟨rfl, rfl⟩)
      go_ret
      exact ⟨ret_bool HZ.out.symm, (by repeat' (first | exact Below.refl _ _ | (with_reducible first | assumption | exact Nat.le_refl _ | refine Below.alloc ?_ ?_ _ | refine Below.setCell ?_ ?_ _ | refine Below.drew ?_ | refine below_drewN ?_ _) | refine Below.trans ?_ (Below.mono (by assumption) ?_) | exact Below.size (by assumption) | omega | go_size | (simp at *; omega)))⟩
theorem l06List_any (A : Option Addr) (n c : Nat) (p : List PT) (w : World) (hn : n ≤ 1099511627776) (hr : Rd w w.heap.size 2 A n (ths p)) :
    Calls Tryz.prog 138 #[.slice A n c] w fun e w' => e = .returned (.bool (ptsOk p && betweenB (n : Int) 1 8)) ∧ w = w' := by
  have hlen := hr.th_len
  obtain ⟨R, hR⟩ : ∃ R, (p.drop 0).all ptOk = R := ⟨_, rfl⟩
  have hth : Hid (ptsOk p = R) := by show _ = _; rw [← hR]; rfl
  have hR := hid hR
  have HR := hid hr
  have HL := hid hlen
  clear hr hlen
  go_enter Tryz.func138, Tryz.ntmps138
  go_wp2
  go_loopw [3] (fun i wr => Hid (∃ k : Nat, k ≤ n ∧ i = .int .i64 k ∧ Hid ((p.drop k).all ptOk = R) ∧ wr = w)) (fun i _ => n - (intOf i).toNat)
  case atStart => exact hid ⟨0, Nat.zero_le _, rfl, hR, rfl⟩
  case round =>
    obtain ⟨k, hk, rfl, he, rfl⟩ := hrel.out
    clear hrel
    by_cases hlt : k < n
    · obtain ⟨b, off, x, rfl, hb, hx, hd, c0, c1⟩ := HR.out.th_at hlt
      obtain ⟨x1, x2⟩ := x
      have hbt : Hid (ptOk (x1, x2) = (betweenB x1 0 15 && !(x1 == 0 && x2))) := rfl
      have HS := hid (fun h => allq_step he.out hd (x := ((x1, x2) : PT)) h)
      have HF := hid (fun h => allq_stop he.out hd (x := ((x1, x2) : PT)) h)
      cases hbx : betweenB x1 0 15 with
      | false =>
        have HZ : Hid (ptsOk p = false) := by show _ = _; rw [hth.out, HF.out (by rw [hbt.out, hbx]; rfl)]
        have hB := hid (fun w1 => by have := l00In_any x1 0 15 w1; rw [hbx] at this; exact this)
        clear he hR hth hx hd hb HS HF hbt hbx
        go_wp2_with (go_at_call 54; refine (hB.out _).mono ?_; rintro e w' ⟨rfl, rfl⟩)
        go_ret
        exact ⟨ret_bool (by rw [HZ.out]; rfl), rfl⟩
      | true =>
        have hB := hid (fun w1 => by have := l00In_any x1 0 15 w1; rw [hbx] at this; exact this)
        by_cases h0 : x1 = 0
        · subst h0
          cases x2
          · have HZ : Hid ((p.drop (k + 1)).all ptOk = R) := HS.out (by rw [hbt.out, hbx]; rfl)
            clear he hR hth hx hd hb HS HF hbt hbx
            go_wp2_with (go_at_call 54; refine (hB.out _).mono ?_; rintro e w' ⟨rfl, rfl⟩)
            go_roundw
            case rel => exact hid ⟨k + 1, by omega, by go_num, HZ, by first | rfl | trivial⟩
            case measure => simp [intOf]; omega
          · have HZ : Hid (ptsOk p = false) := by show _ = _; rw [hth.out, HF.out (by rw [hbt.out, hbx]; rfl)]
            clear he hR hth hx hd hb HS HF hbt hbx
            go_wp2_with (go_at_call 54; refine (hB.out _).mono ?_; rintro e w' ⟨rfl, rfl⟩)
            go_ret
            exact ⟨ret_bool (by rw [HZ.out]; rfl), rfl⟩
        · have hq : (x1 == 0) = false := by simpa using h0
          have HZ : Hid ((p.drop (k + 1)).all ptOk = R) := HS.out (by rw [hbt.out, hbx, hq]; rfl)
          clear he hR hth hx hd hb HS HF hbt hbx h0
          go_wp2_with (go_at_call 54; refine (hB.out _).mono ?_; rintro e w' ⟨rfl, rfl⟩)
          go_roundw
          case rel => exact hid ⟨k + 1, by omega, by go_num, HZ, by first | rfl | trivial⟩
          case measure => simp [intOf]; omega
    · have HZ : Hid (ptsOk p = true) := by
        show _ = _
        have := he.out
        rw [List.drop_eq_nil_of_le (by rw [HL.out]; omega)] at this
        rw [hth.out, ← this]; rfl
      clear he hR hth
      go_wp2_with (go_at_call 54; refine (l00In_any _ _ _ _).mono ?_; rintro e w' ⟨rfl, rfl⟩)
      go_ret
      exact ⟨ret_bool (by rw [HZ.out]; rfl), rfl⟩
set_option maxHeartbeats 1000000 in
theorem l06Shape_qat (g o : Nat) (A B : Option Addr) (n c m d : Nat) (p : Psg) (w : World) (hn : n ≤ 1099511627776) (hm : m ≤ 1099511627776) (hx : Bo w g o #[.slice A n c, .slice B m d]) (hr : Rd w w.heap.size 2 A n (ths p.1)) (hs : Rd w w.heap.size 2 B m (ths p.2)) :
    Calls Tryz.prog 114 #[.pointer (some ⟨g, o, none⟩)] w fun e w' => e = .returned (.bool (psSh p)) ∧ ∃ k, w' = w.drewN k := by
  obtain ⟨a, b⟩ := p
  have hth : Hid (psSh (a, b) = ((ptsOk a && betweenB (n : Int) 1 8) && (ptsOk b && betweenB (m : Int) 1 8) && ((n : Int) == (m : Int)))) := by
    show _ = _
    have h1 := hr.th_len
    have h2 := hs.th_len
    simp only at h1 h2
    rw [Bool.eq_iff_iff, psSh_iff]
    simp only [h1, h2, Bool.and_eq_true, betweenB_iff, beq_iff_eq]
    constructor
    · rintro ⟨h1, h2, h3, h4⟩; exact ⟨⟨⟨h3, by omega⟩, h4, by omega⟩, by omega⟩
    · rintro ⟨⟨⟨h1, h2⟩, h3, h4⟩, h5⟩; exact ⟨by omega, by omega, h1, h3⟩
  have c0 := hx.cell 0
  have c1 := hx.cell 1
  have hgl := hx.lt
  have hP1 := hid (fun k : Nat => l06List_any A n c a (w.drewN k) hn (show Rd (w.drewN k) w.heap.size 2 A n (ths a) from hr))
  have hP2 := hid (fun k : Nat => l06List_any B m d b (w.drewN k) hm (show Rd (w.drewN k) w.heap.size 2 B m (ths b) from hs))
  clear hr hs hx
  replace c0 : w.cell? ⟨g, o, none⟩ = some (.slice A n c) := c0
  replace c1 : w.cell? ⟨g, o + 1, none⟩ = some (.slice B m d) := c1
  cases h1 : (ptsOk a && betweenB (n : Int) 1 8) with
  | false =>
    have HZ : Hid (psSh (a, b) = false) := by show _ = _; rw [hth.out, h1]; rfl
    have hP1 := hid (fun k => by have := hP1.out k; rw [h1] at this; exact this)
    clear hth h1
    go_enter Tryz.func114, Tryz.ntmps114
    go_wp2
    go_quiet (first | ((go_at_call 138; exact quiet_same (hP1.out _))))
    go_wp2
    go_ret
    exact ⟨ret_bool HZ.out.symm, _, rfl⟩
  | true =>
    have hP1 := hid (fun k => by have := hP1.out k; rw [h1] at this; exact this)
    cases h2 : (ptsOk b && betweenB (m : Int) 1 8) with
    | false =>
      have HZ : Hid (psSh (a, b) = false) := by show _ = _; rw [hth.out, h1, h2]; rfl
      have hP2 := hid (fun k => by have := hP2.out k; rw [h2] at this; exact this)
      clear hth h1 h2
      go_enter Tryz.func114, Tryz.ntmps114
      go_wp2
      go_quiet (first | (go_at_call 138; with_reducible exact quiet_same (hP1.out _)) | (go_at_call 138; with_reducible exact quiet_same (hP2.out _)))
      go_wp2
      go_ret
      exact ⟨ret_bool HZ.out.symm, _, rfl⟩
    | true =>
      have hP2 := hid (fun k => by have := hP2.out k; rw [h2] at this; exact this)
      have HZ : Hid (psSh (a, b) = ((n : Int) == (m : Int))) := by show _ = _; rw [hth.out, h1, h2]; rfl
      clear hth h1 h2
      go_enter Tryz.func114, Tryz.ntmps114
      go_wp2
      go_quiet (first | (go_at_call 138; with_reducible exact quiet_same (hP1.out _)) | (go_at_call 138; with_reducible exact quiet_same (hP2.out _)))
      go_wp2
      go_ret
      exact ⟨ret_bool HZ.out.symm, _, rfl⟩
theorem l06Shape_quiet (g : Nat) (A B : Option Addr) (n c m d : Nat) (p : Psg) (w : World) (hn : n ≤ 1099511627776) (hm : m ≤ 1099511627776) (hx : Bx w g 31 #[.slice A n c, .slice B m d]) (hr : Rd w w.heap.size 2 A n (ths p.1)) (hs : Rd w w.heap.size 2 B m (ths p.2)) :
    Calls Tryz.prog 114 #[.pointer (some ⟨g, 0, none⟩)] w fun e w' => e = .returned (.bool (psSh p)) ∧ ∃ k, w' = w.drewN k := l06Shape_qat g 0 A B n c m d p w hn hm hx.bo hr hs
theorem l06Same_any (A A' : Option Addr) (n n' c c' : Nat) (xs ys : List PT) (w : World) (hn : n ≤ 1099511627776) (hn' : n' ≤ 1099511627776) (h : Rd w w.heap.size 2 A n (ths xs)) (h' : Rd w w.heap.size 2 A' n' (ths ys)) :
    Calls Tryz.prog 92 #[.slice A n c, .slice A' n' c'] w fun e w' => e = .returned (.bool (decide (xs = ys))) ∧ Below w.heap.size w w' := by
  have hl := h.th_len
  have hl' := h'.th_len
  by_cases hnn : n = n'
  · subst hnn
    have hst : Hid (decide (xs.drop 0 = ys.drop 0) = decide (xs = ys)) := rfl
    go_enter Tryz.func92, Tryz.ntmps92
    go_wp2
    go_loopw [5] (fun i wr => ∃ k : Nat, k ≤ n ∧ i = .int .i64 k ∧ Hid (decide (xs.drop k = ys.drop k) = decide (xs = ys)) ∧ Below w.heap.size w wr) (fun i _ => n - (intOf i).toNat)
    case atStart => exact ⟨0, Nat.zero_le _, rfl, hst, (by repeat' (first | exact Below.refl _ _ | (with_reducible first | assumption | exact Nat.le_refl _ | refine Below.alloc ?_ ?_ _ | refine Below.setCell ?_ ?_ _ | refine Below.drew ?_ | refine below_drewN ?_ _) | refine Below.trans ?_ (Below.mono (by assumption) ?_) | exact Below.size (by assumption) | omega | go_size | (simp at *; omega)))⟩
    case round =>
    obtain ⟨k, hk, rfl, he, hb0⟩ := hrel
    by_cases hlt : k < n
    · obtain ⟨b, off, x, rfl, hb, hx, hd, c0, c1⟩ := (h.below hb0 (Nat.le_refl _)).th_at hlt
      obtain ⟨b', off', x', rfl, hb', hx', hd', d0, d1⟩ := (h'.below hb0 (Nat.le_refl _)).th_at hlt
      obtain ⟨x1, x2⟩ := x
      obtain ⟨y1, y2⟩ := x'
      by_cases hxx : ((x1, x2) : PT) = (y1, y2)
      · have HZ : Hid (decide (xs.drop (k + 1) = ys.drop (k + 1)) = decide (xs = ys)) := by
          show _ = _
          rw [← he.out, hd, hd', hxx]; simp
        injection hxx with h1 h2
        subst h1 h2
        clear hx hx' hd hd' he hst h h' hb hb' hl hl'
        go_wp2
        go_quiet (fail)
        go_wp2
        go_roundw
        case rel => exact ⟨k + 1, by omega, by go_num, HZ, (by repeat' (first | exact Below.refl _ _ | (with_reducible first | assumption | exact Nat.le_refl _ | refine Below.alloc ?_ ?_ _ | refine Below.setCell ?_ ?_ _ | refine Below.drew ?_ | refine below_drewN ?_ _) | refine Below.trans ?_ (Below.mono (by assumption) ?_) | exact Below.size (by assumption) | omega | go_size | (simp at *; omega)))⟩
        case measure => simp [intOf]; omega
      · have HZ : Hid (decide (xs = ys) = false) := by
          show _ = _
          rw [← he.out, hd, hd']
          refine decide_eq_false fun e => hxx ?_
          injection e
        rcases th_ne hxx with h1 | ⟨h1, h2⟩
        · have hq : (x1 == y1) = false := by simpa using h1
          clear hx hx' hd hd' he hst h h' hb hb' hl hl' hxx h1
          go_wp2
          go_quiet (fail)
          go_wp2
          go_ret
          exact ⟨ret_bool HZ.out.symm, (by repeat' (first | exact Below.refl _ _ | (with_reducible first | assumption | exact Nat.le_refl _ | refine Below.alloc ?_ ?_ _ | refine Below.setCell ?_ ?_ _ | refine Below.drew ?_ | refine below_drewN ?_ _) | refine Below.trans ?_ (Below.mono (by assumption) ?_) | exact Below.size (by assumption) | omega | go_size | (simp at *; omega)))⟩
        · have hq : (x2 == y2) = false := by simpa using h2
          subst h1
          clear hx hx' hd hd' he hst h h' hb hb' hl hl' hxx h2
          go_wp2
          go_quiet (fail)
          go_wp2
          go_ret
          exact ⟨ret_bool HZ.out.symm, (by repeat' (first | exact Below.refl _ _ | (with_reducible first | assumption | exact Nat.le_refl _ | refine Below.alloc ?_ ?_ _ | refine Below.setCell ?_ ?_ _ | refine Below.drew ?_ | refine below_drewN ?_ _) | refine Below.trans ?_ (Below.mono (by assumption) ?_) | exact Below.size (by assumption) | omega | go_size | (simp at *; omega)))⟩
    · have HZ : Hid (decide (xs = ys) = true) := by
        show _ = _
        rw [← he.out, List.drop_eq_nil_of_le (by omega), List.drop_eq_nil_of_le (by omega)]; rfl
      clear he hst hl hl' h h'
      go_wp2
      go_ret
      exact ⟨ret_bool HZ.out.symm, (by repeat' (first | exact Below.refl _ _ | (with_reducible first | assumption | exact Nat.le_refl _ | refine Below.alloc ?_ ?_ _ | refine Below.setCell ?_ ?_ _ | refine Below.drew ?_ | refine below_drewN ?_ _) | refine Below.trans ?_ (Below.mono (by assumption) ?_) | exact Below.size (by assumption) | omega | go_size | (simp at *; omega)))⟩
  · have HZ : Hid (decide (xs = ys) = false) := by
      show _ = _
      refine decide_eq_false fun e => hnn ?_
      rw [← hl, ← hl', e]
    clear hl hl' h h'
    go_enter Tryz.func92, Tryz.ntmps92
    go_wp2
    go_ret
    exact ⟨ret_bool HZ.out.symm, (by repeat' (first | exact Below.refl _ _ | (with_reducible first | assumption | exact Nat.le_refl _ | refine Below.alloc ?_ ?_ _ | refine Below.setCell ?_ ?_ _ | refine Below.drew ?_ | refine below_drewN ?_ _) | refine Below.trans ?_ (Below.mono (by assumption) ?_) | exact Below.size (by assumption) | omega | go_size | (simp at *; omega)))⟩
theorem specSamePassing_any (A B A' B' : Option Addr) (n c m d n' c' m' d' : Nat) (p q : Psg) (w : World) (hn : n ≤ 1099511627776) (hm : m ≤ 1099511627776) (hn' : n' ≤ 1099511627776) (hm' : m' ≤ 1099511627776)
    (h1 : Rd w w.heap.size 2 A n (ths p.1)) (h2 : Rd w w.heap.size 2 B m (ths p.2)) (h3 : Rd w w.heap.size 2 A' n' (ths q.1)) (h4 : Rd w w.heap.size 2 B' m' (ths q.2)) :
    Calls Tryz.prog 53 #[.agg #[.slice A n c, .slice B m d], .agg #[.slice A' n' c', .slice B' m' d']] w fun e w' => e = .returned (.bool (decide (p = q))) ∧ Below w.heap.size w w' := by
  obtain ⟨a, b⟩ := p
  obtain ⟨a', b'⟩ := q
  have hth : Hid (decide (((a, b) : Psg) = (a', b')) = (decide (a = a') && decide (b = b'))) := by
    show _ = _
    rw [Bool.eq_iff_iff]; simp
  have hbx : Below w.heap.size w ((w.alloc (Obj.cells #[.slice A n c, .slice B m d] 31)).alloc (Obj.cells #[.slice A' n' c', .slice B' m' d'] 31)) := (by repeat' (first | exact Below.refl _ _ | (with_reducible first | assumption | exact Nat.le_refl _ | refine Below.alloc ?_ ?_ _ | refine Below.setCell ?_ ?_ _ | refine Below.drew ?_ | refine below_drewN ?_ _) | refine Below.trans ?_ (Below.mono (by assumption) ?_) | exact Below.size (by assumption) | omega | go_size | (simp at *; omega)))
  have hC := l06Same_any A A' n n' c c' a a' _ hn hn' ((h1.below hbx (Nat.le_refl _)).more hbx.size) ((h3.below hbx (Nat.le_refl _)).more hbx.size)
  have hP2 := hid (fun (w1 : World) (hb : Below w.heap.size w w1) => l06Same_any B B' m m' d d' b b' w1 hm hm' ((h2.below hb (Nat.le_refl _)).more hb.size) ((h4.below hb (Nat.le_refl _)).more hb.size))
  clear h1 h2 h3 h4
  cases ha : decide (a = a') with
  | false =>
    have HZ : Hid (decide (((a, b) : Psg) = (a', b')) = false) := by show _ = _; rw [hth.out, ha]; rfl
    rw [ha] at hC
    have hC := hid hC
    clear hth ha hP2
    go_enter Tryz.func53, Tryz.ntmps53
    go_wp2_with fail
    refine hC.out.mono ?_
    rintro e w1 ⟨rfl, hb1⟩
    go_wp2
    go_ret
    exact ⟨ret_bool HZ.out.symm, (by repeat' (first | exact Below.refl _ _ | (with_reducible first | assumption | exact Nat.le_refl _ | refine Below.alloc ?_ ?_ _ | refine Below.setCell ?_ ?_ _ | refine Below.drew ?_ | refine below_drewN ?_ _) | refine Below.trans ?_ (Below.mono (by assumption) ?_) | exact Below.size (by assumption) | omega | go_size | (simp at *; omega)))⟩
  | true =>
    have HZ : Hid (decide (((a, b) : Psg) = (a', b')) = decide (b = b')) := by show _ = _; rw [hth.out, ha]; rfl
    rw [ha] at hC
    have hC := hid hC
    clear hth ha
    go_enter Tryz.func53, Tryz.ntmps53
    go_wp2_with fail
    refine hC.out.mono ?_
    rintro e w1 ⟨rfl, hb1⟩
    obtain ⟨hc1, hf1, hz1, hl1⟩ := bcell hb1
    have hB1 : Below w.heap.size w w1 := (by repeat' (first | exact Below.refl _ _ | (with_reducible first | assumption | exact Nat.le_refl _ | refine Below.alloc ?_ ?_ _ | refine Below.setCell ?_ ?_ _ | refine Below.drew ?_ | refine below_drewN ?_ _) | refine Below.trans ?_ (Below.mono (by assumption) ?_) | exact Below.size (by assumption) | omega | go_size | (simp at *; omega)))
    have hD := hid (hP2.out _ hB1)
    clear hP2 hC
    go_wp2_with fail
    refine hD.out.mono ?_
    rintro e w2 ⟨rfl, hb2⟩
    clear hD
    go_wp2
    go_ret
    exact ⟨ret_bool HZ.out.symm, (by repeat' (first | exact Below.refl _ _ | (with_reducible first | assumption | exact Nat.le_refl _ | refine Below.alloc ?_ ?_ _ | refine Below.setCell ?_ ?_ _ | refine Below.drew ?_ | refine below_drewN ?_ _) | refine Below.trans ?_ (Below.mono (by assumption) ?_) | exact Below.size (by assumption) | omega | go_size | (simp at *; omega)))⟩
end Go.Proofs.YtgphkfnobmponaaGreat

/- Contracts of SlideSync and PairUp. -/
namespace Go.Proofs.YtgphkfnobmponaaGreat
open Go.RowKit
set_option linter.unusedVariables false

/-- A list of numbers of the call's own, and a code. -/
def ItRes (B : Nat) (r : List Int × Int) (e : Ending) (w : World) : Prop := ∃ A c, (A = none → c = 0) ∧ e = .returned (.tuple #[.slice A r.1.length c, .int .i64 r.2]) ∧ w.ownsRow B 2 1 (.slice A r.1.length c) r.1.length (ints r.1)
theorem ItRes.none_ (B : Nat) (w : World) (x : Int) : ItRes B ([], x) (.returned (.tuple #[.slice none 0 0, .int .i64 x])) w := ⟨none, 0, fun _ => rfl, rfl, World.ownsRow_nil _ _ _ _⟩
theorem ItRes.mk {B n : Nat} {v : Value} {w : World} {q : List Int} {x : Int} (hl : q.length = n) (h : w.ownsRow B 2 1 v n (ints q)) : ItRes B (q, x) (.returned (.tuple #[v, .int .i64 x])) w := by
  subst hl
  obtain ⟨A, c, rfl, hA⟩ := own_form3 h
  exact ⟨A, c, hA, rfl, h⟩
theorem slV_even {k : Nat} {v : Int} (h : k % 2 = 0) : slV k (v, true) = v + 1 := by simp [slV, h]
theorem slV_odd {k : Nat} {v : Int} (h : ¬ k % 2 = 0) : slV k (v, true) = v - 1 := by simp [slV, h]
theorem slV_no {k : Nat} {v : Int} : slV k (v, false) = v := by simp [slV]
theorem l05Slide_any (A : Option Addr) (n c k : Nat) (p : List Beat) (w : World) (hn : n ≤ 6) (hp : beatsOk p = true) (hk : k < 2 * n) (hr : Rd w w.heap.size 4 A n (bts p)) :
    Calls Tryz.prog 131 #[.slice A n c, .int .i64 (k : Int)] w fun e w' => e = .returned (.int .i64 (slV k (nth p k))) ∧ Below w.heap.size w w' := by
  have hC := hid (l05At_any A n c k p w (by omega) hk hr)
  obtain ⟨v0, v1⟩ := nth_bd hp k
  generalize nth p k = t at *
  obtain ⟨v, cr⟩ := t
  simp only at v0 v1
  clear hr hp
  cases cr
  · have hs := hid (slV_no (k := k) (v := v))
    go_enter Tryz.func131, Tryz.ntmps131
    go_wp2_with fail
    refine hC.out.mono ?_
    rintro e w3 ⟨rfl, hb3⟩
    go_wp2
    go_ret
    exact ⟨ret_int hs.out.symm, (by repeat' (first | exact Below.refl _ _ | (with_reducible first | assumption | exact Nat.le_refl _ | refine Below.alloc ?_ ?_ _ | refine Below.setCell ?_ ?_ _ | refine Below.drew ?_ | refine below_drewN ?_ _) | refine Below.trans ?_ (Below.mono (by assumption) ?_) | exact Below.size (by assumption) | omega | go_size | (simp at *; omega)))⟩
  · by_cases hpar : k % 2 = 0
    · have hs := hid (slV_even (v := v) hpar)
      have hq : ((k : Int) % 2 == 0) = true := by simp; omega
      clear hpar
      go_enter Tryz.func131, Tryz.ntmps131
      go_wp2_with fail
      refine hC.out.mono ?_
      rintro e w3 ⟨rfl, hb3⟩
      go_wp2
      go_ret
      exact ⟨ret_int hs.out.symm, (by repeat' (first | exact Below.refl _ _ | (with_reducible first | assumption | exact Nat.le_refl _ | refine Below.alloc ?_ ?_ _ | refine Below.setCell ?_ ?_ _ | refine Below.drew ?_ | refine below_drewN ?_ _) | refine Below.trans ?_ (Below.mono (by assumption) ?_) | exact Below.size (by assumption) | omega | go_size | (simp at *; omega)))⟩
    · have hs := hid (slV_odd (v := v) hpar)
      have hq : ((k : Int) % 2 == 0) = false := by simp; omega
      clear hpar
      go_enter Tryz.func131, Tryz.ntmps131
      go_wp2_with fail
      refine hC.out.mono ?_
      rintro e w3 ⟨rfl, hb3⟩
      go_wp2
      go_ret
      exact ⟨ret_int hs.out.symm, (by repeat' (first | exact Below.refl _ _ | (with_reducible first | assumption | exact Nat.le_refl _ | refine Below.alloc ?_ ?_ _ | refine Below.setCell ?_ ?_ _ | refine Below.drew ?_ | refine below_drewN ?_ _) | refine Below.trans ?_ (Below.mono (by assumption) ?_) | exact Below.size (by assumption) | omega | go_size | (simp at *; omega)))⟩
set_option maxHeartbeats 400000 in
theorem specSlideSync_any (A : Option Addr) (n c : Nat) (p : List Beat) (w : World) (hn : n ≤ 1099511627776) (hr : Rd w w.heap.size 4 A n (bts p)) :
    Calls Tryz.prog 96 #[.slice A n c] w fun e w' => ItRes w.heap.size (rSlide p) e w' ∧ Below w.heap.size w w' := by
  have hV := l05Ok_any A n c p w hn hr
  have hlen := hr.bt_len
  cases hp : syOk p with
  | true =>
    rw [hp] at hV
    have hV := hid hV
    have HO : Hid (rSlide p = (slP p, 0)) := by show _ = _; simp [rSlide, hp]
    obtain ⟨h1, h6⟩ := syOk_bd hp
    rw [hlen] at h1 h6
    obtain ⟨N, hN⟩ : ∃ N : Nat, 2 * (n : Int) = (N : Int) := ⟨2 * n, by omega⟩
    have hNn : N = 2 * n := by omega
    have hG := hid (fun (w1 : World) (b : Below w.heap.size w w1) (k : Nat) (hk : k < N) => l05Slide_any A n c k p w1 (by omega) (syOk_b hp) (by omega) ((hr.below b (Nat.le_refl _)).more b.size))
    have hst : Hid (([] : List Int) = (slP p).take 0) := by show _ = _; simp
    have hstep := hid (fun (k : Nat) (h : k < N) => show (slP p).take (k + 1) = (slP p).take k ++ [slV k (nth p k)] from slP_step (by omega))
    have hRl := hid (show (slP p).length = N by rw [slP_len, hlen, hNn])
    have hN6 : N ≤ 12 := by omega
    generalize slP p = R at *
    clear hr hp hlen hNn
    go_enter Tryz.func96, Tryz.ntmps96
    go_wp2_with fail
    refine hV.out.mono ?_
    rintro e w1 ⟨rfl, hb1⟩
    have hz1 := hb1.size
    go_wp2
    go_loopw [4, 5] (fun v i wr => Hid (∃ k : Nat, k ≤ N ∧ i = .int .i64 k ∧ wr.ownsRow w.heap.size 2 1 v (R.take k).length (ints (R.take k)) ∧ Below w.heap.size w wr)) (fun _ i _ => N - (intOf i).toNat)
    case atStart => exact hid ⟨0, Nat.zero_le _, rfl, by rw [← hst.out]; exact World.ownsRow_lit _ _ 0 hz1 (by simp [maxLen]) rfl, (by repeat' (first | exact Below.refl _ _ | (with_reducible first | assumption | exact Nat.le_refl _ | refine Below.alloc ?_ ?_ _ | refine Below.setCell ?_ ?_ _ | refine Below.drew ?_ | refine below_drewN ?_ _) | refine Below.trans ?_ (Below.mono (by assumption) ?_) | exact Below.size (by assumption) | omega | go_size | (simp at *; omega)))⟩
    case round =>
      obtain ⟨k, hk, rfl, ho, hb0⟩ := hrel.out
      have hkl : (R.take k).length ≤ 12 := by rw [List.length_take, hRl.out]; omega
      have hz := hb0.size
      clear hrel
      by_cases hlt : k < N
      · have hs := hid (hstep.out k hlt)
        have hC := hid (hG.out _ hb0 k hlt)
        generalize slV k (nth p k) = x at *
        generalize R.take k = out at *
        go_wp2_with fail
        refine hC.out.mono ?_
        rintro e w3 ⟨rfl, hb3⟩
        have ho := own_below ho hb3
        have hb3 := bchain hb0 hb3
        have hz3 := hb3.size
        go_wp2_with (at_builtin; refine push_int ho (x) _ Tryz.underlying24 inf_int rfl rfl _ _ rfl rfl rfl (by omega) (by omega) ?_; intro v1 w1 ho1 hb1 hg1)
        go_roundw
        case rel => exact hid ⟨k + 1, by omega, by go_num, by rw [hs.out]; first | exact ho1 | exact ho_1 | assumption, (by repeat' (first | exact Below.refl _ _ | (with_reducible first | assumption | exact Nat.le_refl _ | refine Below.alloc ?_ ?_ _ | refine Below.setCell ?_ ?_ _ | refine Below.drew ?_ | refine below_drewN ?_ _) | refine Below.trans ?_ (Below.mono (by assumption) ?_) | exact Below.size (by assumption) | omega | go_size | (simp at *; omega)))⟩
        case measure => simp [intOf]; omega
      · have hkn : k = N := by omega
        subst hkn
        rw [List.take_of_length_le (by rw [hRl.out]; exact Nat.le_refl _)] at ho
        go_wp2
        go_ret2
        exact ⟨by rw [HO.out]; exact ItRes.mk rfl ho, hb0⟩
  | false =>
    rw [hp] at hV
    have hV := hid hV
    have HO : Hid (rSlide p = ([], 1)) := by show _ = _; simp [rSlide, hp]
    clear hr hp
    go_enter Tryz.func96, Tryz.ntmps96
    go_wp2_with fail
    refine hV.out.mono ?_
    rintro e w1 ⟨rfl, hb1⟩
    go_wp2
    go_ret2
    exact ⟨by rw [HO.out]; exact ItRes.none_ _ _ _, (by repeat' (first | exact Below.refl _ _ | (with_reducible first | assumption | exact Nat.le_refl _ | refine Below.alloc ?_ ?_ _ | refine Below.setCell ?_ ?_ _ | refine Below.drew ?_ | refine below_drewN ?_ _) | refine Below.trans ?_ (Below.mono (by assumption) ?_) | exact Below.size (by assumption) | omega | go_size | (simp at *; omega)))⟩
end Go.Proofs.YtgphkfnobmponaaGreat
