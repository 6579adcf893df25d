/- Contracts of the functions of the graphs of states, and the walks of their laws. -/
import Derived.Test.YtnngkaocblkgkaaG
namespace Go.Proofs.Ytnngkaocblkgkaa
open Go.RowKit
set_option linter.unusedVariables false

def stRange (p h : Int) : Bool := betweenB h 1 10 && betweenB p 0 h
theorem stRange_h {p h : Int} (k : stRange p h = true) : 1 ≤ h ∧ h ≤ 10 := by
  simp only [stRange, Bool.and_eq_true, betweenB_iff] at k; exact k.1
def gCode (p h : Int) : Int := if stRange p h then 0 else 2
theorem graphCode_any (p h : Int) (w : World) :
    Calls Try.prog 55 #[.int .i64 p, .int .i64 h] w fun e w' => e = .returned (.int .i64 (gCode p h)) ∧ w = w' := by
  by_cases k : betweenB h 1 10 = true
  · by_cases k2 : betweenB p 0 h = true
    · have hs : Hid (gCode p h = 0) := by show _ = _; simp [gCode, stRange, k, k2]
      go_enter Try.func55, Try.ntmps55
      go_wp2_with (first | (go_at_call 87; refine (isHeight_any _ _).mono ?_; rintro e w' ⟨rfl, rfl⟩) | (go_at_call 57; refine (between_any _ _ _ _).mono ?_; rintro e w' ⟨rfl, rfl⟩))
      go_ret
      exact ⟨ret_int hs.out.symm, rfl⟩
    · have k2 : betweenB p 0 h = false := by simpa using k2
      have hs : Hid (gCode p h = 2) := by show _ = _; simp [gCode, stRange, k2]
      go_enter Try.func55, Try.ntmps55
      go_wp2_with (first | (go_at_call 87; refine (isHeight_any _ _).mono ?_; rintro e w' ⟨rfl, rfl⟩) | (go_at_call 57; refine (between_any _ _ _ _).mono ?_; rintro e w' ⟨rfl, rfl⟩))
      go_ret
      exact ⟨ret_int hs.out.symm, rfl⟩
  · have k : betweenB h 1 10 = false := by simpa using k
    have hs : Hid (gCode p h = 2) := by show _ = _; simp [gCode, stRange, k]
    go_enter Try.func55, Try.ntmps55
    go_wp2_with (first | (go_at_call 87; refine (isHeight_any _ _).mono ?_; rintro e w' ⟨rfl, rfl⟩) | (go_at_call 57; refine (between_any _ _ _ _).mono ?_; rintro e w' ⟨rfl, rfl⟩))
    go_ret
    exact ⟨ret_int hs.out.symm, rfl⟩
theorem l09Code_any (p h : Int) (w : World) :
    Calls Try.prog 52 #[.int .i64 p, .int .i64 h] w fun e w' => e = .returned (.int .i64 (gCode p h)) ∧ w = w' := by
  by_cases k : betweenB h 1 10 = true
  · by_cases k2 : betweenB p 0 h = true
    · have hs : Hid (gCode p h = 0) := by show _ = _; simp [gCode, stRange, k, k2]
      go_enter Try.func52, Try.ntmps52
      go_wp2_with (first | (go_at_call 86; refine (l08Height_any _ _).mono ?_; rintro e w' ⟨rfl, rfl⟩) | (go_at_call 54; refine (l00In_any _ _ _ _).mono ?_; rintro e w' ⟨rfl, rfl⟩))
      go_ret
      exact ⟨ret_int hs.out.symm, rfl⟩
    · have k2 : betweenB p 0 h = false := by simpa using k2
      have hs : Hid (gCode p h = 2) := by show _ = _; simp [gCode, stRange, k2]
      go_enter Try.func52, Try.ntmps52
      go_wp2_with (first | (go_at_call 86; refine (l08Height_any _ _).mono ?_; rintro e w' ⟨rfl, rfl⟩) | (go_at_call 54; refine (l00In_any _ _ _ _).mono ?_; rintro e w' ⟨rfl, rfl⟩))
      go_ret
      exact ⟨ret_int hs.out.symm, rfl⟩
  · have k : betweenB h 1 10 = false := by simpa using k
    have hs : Hid (gCode p h = 2) := by show _ = _; simp [gCode, stRange, k]
    go_enter Try.func52, Try.ntmps52
    go_wp2_with (first | (go_at_call 86; refine (l08Height_any _ _).mono ?_; rintro e w' ⟨rfl, rfl⟩) | (go_at_call 54; refine (l00In_any _ _ _ _).mono ?_; rintro e w' ⟨rfl, rfl⟩))
    go_ret
    exact ⟨ret_int hs.out.symm, rfl⟩
def rStateCount (p h : Int) : Int × Int := if stRange p h then ((msks p h).length, 0) else (0, 2)
def rAllStates (p h : Int) : List Int × Int := if stRange p h then (msks p h, 0) else ([], 2)
theorem AllStates_len (p h : Int) : (rAllStates p h).1.length ≤ 1024 := by
  unfold rAllStates
  split
  · rename_i k; exact msks_len (stRange_h k).1 (stRange_h k).2
  · simp
theorem AllStates_any (p h : Int) (w : World) :
    Calls Try.prog 32 #[.int .i64 p, .int .i64 h] w fun e w' => ∃ v, e = .returned (.tuple #[v, .int .i64 (rAllStates p h).2]) ∧ w'.ownsRow w.heap.size 23 2 v (rAllStates p h).1.length (sts h (rAllStates p h).1) ∧ Below w.heap.size w w' := by
  by_cases k : stRange p h = true
  · obtain ⟨h1, h2⟩ := stRange_h k
    have hg : gCode p h = 0 := by simp [gCode, k]
    have hq := graphCode_any p h
    rw [hg] at hq
    have hq := hid hq
    have hs : Hid (rAllStates p h = (msks p h, 0)) := by show _ = _; simp [rAllStates, k]
    clear hg
    go_enter Try.func32, Try.ntmps32
    go_wp2_with (first | (go_at_call 55; refine (hq.out _).mono ?_; rintro e w' ⟨rfl, rfl⟩) | (go_at_call 56; refine (allStates_any _ _ _ h1 h2).mono ?_; rintro e w1 ⟨v1, rfl, ho1, hb1⟩))
    go_ret2
    rw [hs.out]
    exact ⟨_, rfl, ho1, hb1⟩
  · have hg : gCode p h = 2 := by simp [gCode, k]
    have hq := graphCode_any p h
    rw [hg] at hq
    have hq := hid hq
    have hs : Hid (rAllStates p h = ([], 2)) := by show _ = _; simp [rAllStates, k]
    clear hg
    go_enter Try.func32, Try.ntmps32
    go_wp2_with (first | (go_at_call 55; refine (hq.out _).mono ?_; rintro e w' ⟨rfl, rfl⟩))
    go_ret2
    rw [hs.out]
    exact ⟨_, rfl, World.ownsRow_nil _ _ _ _, (by repeat' (first | exact Below.refl _ _ | (with_reducible assumption) | (with_reducible refine Below.alloc ?_ ?_ _) | (with_reducible refine Below.setCell ?_ ?_ _) | (with_reducible refine Below.drew ?_) | (with_reducible refine below_drewN ?_ _) | (refine Below.trans ?_ (Below.mono (by assumption) ?_)) | (with_reducible exact Nat.le_refl _) | (with_reducible assumption) | (exact Below.size (by assumption)) | omega | go_size | (simp at *; omega)))⟩
theorem specAllStates_any (p h : Int) (w : World) :
    Calls Try.prog 31 #[.int .i64 p, .int .i64 h] w fun e w' => ∃ v, e = .returned (.tuple #[v, .int .i64 (rAllStates p h).2]) ∧ w'.ownsRow w.heap.size 23 2 v (rAllStates p h).1.length (sts h (rAllStates p h).1) ∧ Below w.heap.size w w' := by
  by_cases k : stRange p h = true
  · obtain ⟨h1, h2⟩ := stRange_h k
    have hg : gCode p h = 0 := by simp [gCode, k]
    have hq := l09Code_any p h
    rw [hg] at hq
    have hq := hid hq
    have hs : rAllStates p h = (msks p h, 0) := by simp [rAllStates, k]
    have hl := msks_len (p := p) h1 h2
    have hm := hid (l09Masks_any p h)
    rw [hs]
    generalize msks p h = R at *
    clear hg hs
    go_enter Try.func31, Try.ntmps31
    go_wp2_with (first | (go_at_call 52; refine (hq.out _).mono ?_; rintro e w' ⟨rfl, rfl⟩) | (go_at_call 53; refine (hm.out _ h1 h2).mono ?_; rintro e w1 ⟨v1, rfl, ho1, hb1⟩; obtain ⟨A1, c1, rfl⟩ := own_form ho1))
    have hB1 := hb1.size
    have hz : w.heap.size < w1.heap.size := by simp at hB1; omega
    go_loopw [7, 9] (fun v i wr => ∃ k : Nat, k ≤ R.length ∧ i = .int .i64 k ∧ wr.ownsRow w.heap.size 23 2 v (R.take k).length (sts h (R.take k)) ∧ Below w.heap.size w wr ∧ wr.ownsRow w.heap.size 2 1 (.slice A1 R.length c1) R.length (ints R)) (fun _ i _ => R.length - (intOf i).toNat)
    case atStart =>
      refine ⟨0, Nat.zero_le _, rfl, ?_, (by repeat' (first | exact Below.refl _ _ | (with_reducible assumption) | (with_reducible refine Below.alloc ?_ ?_ _) | (with_reducible refine Below.setCell ?_ ?_ _) | (with_reducible refine Below.drew ?_) | (with_reducible refine below_drewN ?_ _) | (refine Below.trans ?_ (Below.mono (by assumption) ?_)) | (with_reducible exact Nat.le_refl _) | (with_reducible assumption) | (exact Below.size (by assumption)) | omega | go_size | (simp at *; omega))), own_more ho1 (by simp)⟩
      exact own_below (World.ownsRow_lit w #[] 0 (Nat.le_refl _) (by simp [maxLen]) rfl) hb1
    case round =>
      obtain ⟨i, hi, rfl, ho, hb0, hoR⟩ := hrel
      have hB := hb0.size
      by_cases hlt : i < R.length
      · obtain ⟨b, off, x, rfl, hb, hx, _, hc⟩ := (Rd.of_own hoR).at_ hlt
        have ht : R.take (i + 1) = R.take i ++ [x] := by rw [List.take_add_one, hx]; rfl
        have HT := hid ht
        have hl2 : (R.take i).length ≤ 1024 := by rw [List.length_take]; omega
        clear ht hx hb
        go_wp2_with (at_builtin; refine push_st ho x _ rfl _ _ rfl rfl rfl (by omega) hB ?_; intro v1 w2 ho2 hb2 hg2)
        go_roundw
        case rel => exact ⟨i + 1, by omega, by go_num, by rw [HT.out]; exact ho2, hb0.trans hb2, own_types hoR ho (by decide) hg2⟩
        case measure => simp [intOf]; omega
      · go_wp2
        go_ret2
        have : i = R.length := by omega
        subst this
        rw [List.take_length] at ho
        exact ⟨_, rfl, ho, hb0⟩
  · have hg : gCode p h = 2 := by simp [gCode, k]
    have hq := l09Code_any p h
    rw [hg] at hq
    have hq := hid hq
    have hs : Hid (rAllStates p h = ([], 2)) := by show _ = _; simp [rAllStates, k]
    clear hg
    go_enter Try.func31, Try.ntmps31
    go_wp2_with (first | (go_at_call 52; refine (hq.out _).mono ?_; rintro e w' ⟨rfl, rfl⟩))
    go_ret2
    rw [hs.out]
    exact ⟨_, rfl, World.ownsRow_nil _ _ _ _, (by repeat' (first | exact Below.refl _ _ | (with_reducible assumption) | (with_reducible refine Below.alloc ?_ ?_ _) | (with_reducible refine Below.setCell ?_ ?_ _) | (with_reducible refine Below.drew ?_) | (with_reducible refine below_drewN ?_ _) | (refine Below.trans ?_ (Below.mono (by assumption) ?_)) | (with_reducible exact Nat.le_refl _) | (with_reducible assumption) | (exact Below.size (by assumption)) | omega | go_size | (simp at *; omega)))⟩
end Go.Proofs.Ytnngkaocblkgkaa
