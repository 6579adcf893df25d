/- Contracts of the specification's functions that check multiplex patterns. -/
import Derived.Test.YtlbhfjbbkkkldaaBo
import Derived.Test.YtlbhfjbbkkkldaaNa
import Derived.Test.YtlbhfjbbkkkldaaA
import Derived.Deep.QuietTactic
import Derived.BigQuiet
namespace Go.Proofs.Ytlbhfjbbkkkldaa
open Go.RowKit
set_option linter.unusedVariables false

theorem msSh_badrow {rows : List (List Int)} {i : Nat} {row : List Int} (hi : rows[i]? = some row) (h : mstOk row = false) : msSh rows = false := by
  cases hs : msSh rows with
  | false => rfl
  | true => have := (msSh_iff.1 hs).2 row (List.mem_of_getElem? hi); rw [h] at this; cases this
theorem mst_of {row : List Int} {n : Nat} (hl : row.length = n) (h1 : betweenB (n : Int) 1 4 = true) (h : ∀ j, j < n → stK row j = true) : mstOk row = true := by
  rw [mstOk, stAll_iff.2 (fun j hj => h j (by omega)), Bool.and_true, hl]; exact h1
set_option maxHeartbeats 4000000 in
theorem l04Shape_at (g o : Nat) (A : Option Addr) (n c : Nat) (rows : List (List Int)) (w : World) (hn : n ≤ 1099511627776) (hl : ∀ r ∈ rows, r.length ≤ 1099511627776) (hx : Bo w g o #[.slice A n c]) (hr : RdG w w.heap.size A n rows) :
    Calls Try.prog 134 #[.pointer (some ⟨g, o, none⟩)] w fun e w' => e = .returned (.bool (msSh rows)) ∧ Below w.heap.size w w' := by
  have hlen := hr.len
  have hgl := hx.lt
  have HC := hid (fun (w1 : World) (hb : Below w.heap.size w w1) => show w1.cell? ⟨g, o, none⟩ = some (.slice A n c) from (hx.below hb hgl).cell 0)
  have c0 := HC.out w (Below.refl _ _)
  have hB0 := hid (fun w1 => l00In_any (n : Int) 1 12 w1)
  have HR := hid hr
  have HL := hid hlen
  have HLL := hid hl
  cases h1 : betweenB (n : Int) 1 12 with
  | false =>
    have HZ : Hid (msSh rows = false) := by show _ = _; rw [msSh, hlen, h1]; rfl
    have hB := hid (fun w1 => by have := hB0.out w1; rw [h1] at this; exact this)
    clear h1 hr hx hB0 hl hlen
    go_enter Try.func134, Try.ntmps134
    go_wp2_with (go_at_call 95; refine (hB.out _).mono ?_; rintro e w' ⟨rfl, rfl⟩)
    go_ret
    exact ⟨ret_bool HZ.out.symm, (by repeat' (first | exact Below.refl _ _ | (with_reducible assumption) | (with_reducible refine Below.alloc ?_ ?_ _) | (with_reducible refine Below.setCell ?_ ?_ _) | (with_reducible refine Below.drew ?_) | (with_reducible refine below_drewN ?_ _) | (refine Below.trans ?_ (Below.mono (by assumption) ?_)) | (with_reducible exact Nat.le_refl _) | (with_reducible assumption) | (exact Below.size (by assumption)) | omega | go_size | (simp at *; omega)))⟩
  | true =>
    have hB := hid (fun w1 => by have := hB0.out w1; rw [h1] at this; exact this)
    have hGood := hid (fun (h : ∀ (i : Nat) (row : List Int), rows[i]? = some row → mstOk row = true) => show msSh rows = true from msSh_iff.2 ⟨by have h2 := (betweenB_iff _ _ _).1 h1; omega, fun r hr => by obtain ⟨i, hi⟩ := List.getElem?_of_mem hr; exact h i r hi⟩)
    clear h1 hr hx hB0 hl hlen
    go_enter Try.func134, Try.ntmps134
    go_wp2_with (go_at_call 95; refine (hB.out _).mono ?_; rintro e w' ⟨rfl, rfl⟩)
    clear c0
    go_loopw [3] (fun i wr => Hid (∃ k : Nat, i = .int .i64 k ∧ k ≤ n ∧ Hid (∀ j row, j < k → rows[j]? = some row → mstOk row = true) ∧ Below w.heap.size w wr)) (fun i _ => n - (intOf i).toNat)
    case atStart => exact hid ⟨0, rfl, by omega, hid (fun j row h => absurd h (by omega)), (by repeat' (first | exact Below.refl _ _ | (with_reducible assumption) | (with_reducible refine Below.alloc ?_ ?_ _) | (with_reducible refine Below.setCell ?_ ?_ _) | (with_reducible refine Below.drew ?_) | (with_reducible refine below_drewN ?_ _) | (refine Below.trans ?_ (Below.mono (by assumption) ?_)) | (with_reducible exact Nat.le_refl _) | (with_reducible assumption) | (exact Below.size (by assumption)) | omega | go_size | (simp at *; omega)))⟩
    case round =>
      obtain ⟨k, rfl, hk, he, hb0⟩ := hrel.out
      clear hrel hB
      have c0 := HC.out wr hb0
      by_cases hlt : k < n
      · obtain ⟨b, off, row', Ai, ci, rfl, hb, hx, hd, hc, hrow⟩ := HR.out.at_ hlt
        have hcr := (hb0.cell (p := ⟨b, off + k, none⟩) hb).trans hc
        have hll := HLL.out row' (List.mem_of_getElem? hx)
        have HBR := hid (fun (h : mstOk row' = false) => msSh_badrow hx h)
        have HGR := hid (fun (h : mstOk row' = true) (j : Nat) (r : List Int) (hj : j < k + 1) (hr : rows[j]? = some r) => show mstOk r = true from by
          rcases Nat.lt_or_eq_of_le (Nat.le_of_lt_succ hj) with h1 | h1
          · exact he.out j r h1 hr
          · subst h1; rw [hx] at hr; injection hr with hr; subst hr; exact h)
        have hbw : b < wr.heap.size := by have := hb0.size; omega
        have hB1 := hid (fun w1 => l00In_any (row'.length : Int) 1 4 w1)
        have HROW := hid hrow
        clear hx hd hrow hc hb he
        cases h1 : betweenB (row'.length : Int) 1 4 with
        | false =>
          have HZ := hid (HBR.out (by rw [mstOk, h1]; rfl))
          have hB := hid (fun w1 => by have := hB1.out w1; rw [h1] at this; exact this)
          clear h1 hB1 HGR HBR
          go_wp2_with (go_at_call 95; refine (hB.out _).mono ?_; rintro e w' ⟨rfl, rfl⟩)
          go_ret
          exact ⟨ret_bool HZ.out.symm, hb0⟩
        | true =>
          have hB := hid (fun w1 => by have := hB1.out w1; rw [h1] at this; exact this)
          have HEND := hid (fun (h : ∀ j, j < row'.length → stK row' j = true) => HGR.out (mst_of rfl h1 h))
          have HBAD := hid (fun (j : Nat) (hj : j < row'.length) (h : stK row' j = false) => HBR.out (mstOk_badk hj h))
          clear h1 hB1 HGR HBR
          go_wp2_with (go_at_call 95; refine (hB.out _).mono ?_; rintro e w' ⟨rfl, rfl⟩)
          go_loopw [5] (fun i wr => Hid (∃ j : Nat, i = .int .i64 j ∧ j ≤ row'.length ∧ Hid (∀ i, i < j → stK row' i = true) ∧ Below w.heap.size w wr)) (fun i _ => row'.length - (intOf i).toNat)
          case atStart => exact hid ⟨0, rfl, by omega, hid (fun j h => absurd h (by omega)), hb0⟩
          case round =>
            clear hb0 c0 hcr hbw
            obtain ⟨j, rfl, hj, he, hb0⟩ := hrel.out
            clear hrel hB
            by_cases hjl : j < row'.length
            · obtain ⟨bb, ofb, x, rfl, hbb, hxj, hdj, hcj⟩ := (HROW.out.below hb0 (Nat.le_refl _)).at_ hjl
              have hbbw : bb < wr.heap.size := by have := hb0.size; omega
              have hE : Hid (stK row' j = stE row'.length (stPrev row' j) x) := stK_at hxj
              have hB2 := hid (fun w1 => l00In_any x 0 15 w1)
              cases hbt : betweenB x 0 15 with
              | false =>
                have HZ := hid (HBAD.out j hjl (by rw [hE.out]; exact stE_bet hbt))
                have hB := hid (fun w1 => by have := hB2.out w1; rw [hbt] at this; exact this)
                clear hbt hxj hdj he HBAD hE hB2 HEND
                go_wp2
                go_quiet (first | (go_at_call 95; with_reducible exact quiet_same (hB.out _)))
                go_wp2
                go_ret
                exact ⟨ret_bool HZ.out.symm, (by repeat' (first | exact Below.refl _ _ | (with_reducible assumption) | (with_reducible refine Below.alloc ?_ ?_ _) | (with_reducible refine Below.setCell ?_ ?_ _) | (with_reducible refine Below.drew ?_) | (with_reducible refine below_drewN ?_ _) | (refine Below.trans ?_ (Below.mono (by assumption) ?_)) | (with_reducible exact Nat.le_refl _) | (with_reducible assumption) | (exact Below.size (by assumption)) | omega | go_size | (simp at *; omega)))⟩
              | true =>
                have hB := hid (fun w1 => by have := hB2.out w1; rw [hbt] at this; exact this)
                have HG := hid (fun (h : stK row' j = true) => stK_next he.out h)
                by_cases h0 : x = 0
                · by_cases h1 : 1 < row'.length
                  · have HZ := hid (HBAD.out j hjl (by rw [hE.out, h0]; exact stE_zero h1))
                    subst h0
                    have h1I : (1 : Int) < (row'.length : Int) := by omega
                    clear hbt hxj hdj he HBAD hE hB2 HEND HG
                    go_wp2
                    go_quiet (first | (go_at_call 95; with_reducible exact quiet_same (hB.out _)))
                    go_wp2
                    go_ret
                    exact ⟨ret_bool HZ.out.symm, (by repeat' (first | exact Below.refl _ _ | (with_reducible assumption) | (with_reducible refine Below.alloc ?_ ?_ _) | (with_reducible refine Below.setCell ?_ ?_ _) | (with_reducible refine Below.drew ?_) | (with_reducible refine below_drewN ?_ _) | (refine Below.trans ?_ (Below.mono (by assumption) ?_)) | (with_reducible exact Nat.le_refl _) | (with_reducible assumption) | (exact Below.size (by assumption)) | omega | go_size | (simp at *; omega)))⟩
                  · obtain rfl : j = 0 := by omega
                    rw [Nat.add_zero] at hcj
                    have HZ := hid (HG.out (by rw [hE.out]; exact stE_first hbt (.inr h1)))
                    subst h0
                    have h1d : decide ((1 : Int) < (row'.length : Int)) = false := decide_eq_false (by omega)
                    have h1I : (row'.length : Int) ≤ 1 := by omega
                    clear hbt hxj hdj he HBAD hE hB2 HEND HG h1
                    go_wp2
                    go_quiet (first | (go_at_call 95; with_reducible exact quiet_same (hB.out _)))
                    go_wp2
                    go_roundw
                    case rel => exact hid ⟨0 + 1, by go_num, by omega, HZ, (by repeat' (first | exact Below.refl _ _ | (with_reducible assumption) | (with_reducible refine Below.alloc ?_ ?_ _) | (with_reducible refine Below.setCell ?_ ?_ _) | (with_reducible refine Below.drew ?_) | (with_reducible refine below_drewN ?_ _) | (refine Below.trans ?_ (Below.mono (by assumption) ?_)) | (with_reducible exact Nat.le_refl _) | (with_reducible assumption) | (exact Below.size (by assumption)) | omega | go_size | (simp at *; omega)))⟩
                    case measure => simp [intOf]; omega
                · have hq : (x == 0) = false := by simpa using h0
                  rcases Nat.eq_zero_or_pos j with hk0 | hk0
                  · subst hk0
                    rw [Nat.add_zero] at hcj
                    have HZ := hid (HG.out (by rw [hE.out]; exact stE_first hbt (.inl h0)))
                    clear hbt hxj hdj he HBAD hE hB2 HEND HG h0
                    go_wp2
                    go_quiet (first | (go_at_call 95; with_reducible exact quiet_same (hB.out _)))
                    go_wp2
                    go_roundw
                    case rel => exact hid ⟨0 + 1, by go_num, by omega, HZ, (by repeat' (first | exact Below.refl _ _ | (with_reducible assumption) | (with_reducible refine Below.alloc ?_ ?_ _) | (with_reducible refine Below.setCell ?_ ?_ _) | (with_reducible refine Below.drew ?_) | (with_reducible refine below_drewN ?_ _) | (refine Below.trans ?_ (Below.mono (by assumption) ?_)) | (with_reducible exact Nat.le_refl _) | (with_reducible assumption) | (exact Below.size (by assumption)) | omega | go_size | (simp at *; omega)))⟩
                    case measure => simp [intOf]; omega
                  · obtain ⟨m, rfl⟩ : ∃ m, j = m + 1 := ⟨j - 1, by omega⟩
                    obtain ⟨b2, o2, y, hA2, hb2, hy, hd2, hc2⟩ := (HROW.out.below hb0 (Nat.le_refl _)).at_ (show m < row'.length by omega)
                    injection hA2 with hA2
                    injection hA2 with e1 e2
                    subst e1 e2
                    have hE2 : Hid (stK row' (m + 1) = decide (x ≤ y)) := by
                      show _ = _
                      rw [hE.out, show stPrev row' (m + 1) = some y from hy]; exact stE_next hbt h0
                    have hm : IntKind.i64.wrap (((m + 1 : Nat) : Int) - 1) = (m : Int) := by rw [show ((m + 1 : Nat) : Int) - 1 = (m : Int) by omega]; exact IntWalk.i64_in (m : Int) (by omega)
                    have hpos : (0 : Int) < ((m + 1 : Nat) : Int) := by omega
                    have hmn : (m : Int) < (row'.length : Int) := by omega
                    by_cases hle : x ≤ y
                    · have HZ := hid (HG.out (by rw [hE2.out]; simpa using hle))
                      have hng : ¬ y < x := by omega
                      clear hbt hxj hdj he HBAD hE hB2 HEND HG h0 hd2 hy hE2 hle
                      go_wp2
                      go_quiet (first | (go_at_call 95; with_reducible exact quiet_same (hB.out _)))
                      go_wp2
                      go_roundw
                      case rel => exact hid ⟨m + 1 + 1, by go_num, by omega, HZ, (by repeat' (first | exact Below.refl _ _ | (with_reducible assumption) | (with_reducible refine Below.alloc ?_ ?_ _) | (with_reducible refine Below.setCell ?_ ?_ _) | (with_reducible refine Below.drew ?_) | (with_reducible refine below_drewN ?_ _) | (refine Below.trans ?_ (Below.mono (by assumption) ?_)) | (with_reducible exact Nat.le_refl _) | (with_reducible assumption) | (exact Below.size (by assumption)) | omega | go_size | (simp at *; omega)))⟩
                      case measure => simp [intOf]; omega
                    · have HZ := hid (HBAD.out (m + 1) hjl (by rw [hE2.out]; simpa using hle))
                      have hng : y < x := by omega
                      clear hbt hxj hdj he HBAD hE hB2 HEND HG h0 hd2 hy hE2 hle
                      go_wp2
                      go_quiet (first | (go_at_call 95; with_reducible exact quiet_same (hB.out _)))
                      go_wp2
                      go_ret
                      exact ⟨ret_bool HZ.out.symm, (by repeat' (first | exact Below.refl _ _ | (with_reducible assumption) | (with_reducible refine Below.alloc ?_ ?_ _) | (with_reducible refine Below.setCell ?_ ?_ _) | (with_reducible refine Below.drew ?_) | (with_reducible refine below_drewN ?_ _) | (refine Below.trans ?_ (Below.mono (by assumption) ?_)) | (with_reducible exact Nat.le_refl _) | (with_reducible assumption) | (exact Below.size (by assumption)) | omega | go_size | (simp at *; omega)))⟩
            · have HZ := hid (HEND.out (fun i hi => he.out i (by omega)))
              clear he
              go_wp2
              go_roundw
              case rel => exact hid ⟨k + 1, by go_num, by omega, hid (fun j row hj hr => HZ.out j row hj hr), hb0⟩
              case measure => simp [intOf]; omega
      · have HZ := hid (hGood.out (fun i row hi => he.out i row (by have := (List.getElem?_eq_some_iff.1 hi).1; have := HL.out; omega) hi))
        clear he
        go_wp2
        go_ret
        exact ⟨ret_bool HZ.out.symm, hb0⟩
theorem l04Shape_any (g : Nat) (A : Option Addr) (n c : Nat) (rows : List (List Int)) (w : World) (hn : n ≤ 1099511627776) (hl : ∀ r ∈ rows, r.length ≤ 1099511627776) (hx : Bx w g 26 #[.slice A n c]) (hr : RdG w w.heap.size A n rows) :
    Calls Try.prog 134 #[.pointer (some ⟨g, 0, none⟩)] w fun e w' => e = .returned (.bool (msSh rows)) ∧ Below w.heap.size w w' := l04Shape_at g 0 A n c rows w hn hl hx.bo hr
end Go.Proofs.Ytlbhfjbbkkkldaa
