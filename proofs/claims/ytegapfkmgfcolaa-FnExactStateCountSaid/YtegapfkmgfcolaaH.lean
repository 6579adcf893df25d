/- Contracts of the functions of the graphs of states, and the walks of their laws. -/
import Derived.Test.YtegapfkmgfcolaaG
namespace Go.Proofs.Ytegapfkmgfcolaa
open Go.RowKit
set_option linter.unusedVariables false

def stRange (p h : Int) : Bool := betweenB h 1 10 && betweenB p 0 h
theorem stRange_h {p h : Int} (k : stRange p h = true) : 1 ≤ h ∧ h ≤ 10 := by
  simp only [stRange, Bool.and_eq_true, betweenB_iff] at k; exact k.1
def gCode (p h : Int) : Int := if stRange p h then 0 else 2
theorem graphCode_any (p h : Int) (w : World) :
    Calls Try.prog 65 #[.int .i64 p, .int .i64 h] w fun e w' => e = .returned (.int .i64 (gCode p h)) ∧ w = w' := by
  by_cases k : betweenB h 1 10 = true
  · by_cases k2 : betweenB p 0 h = true
    · have hs : Hid (gCode p h = 0) := by show _ = _; simp [gCode, stRange, k, k2]
      go_enter Try.func65, Try.ntmps65
      go_wp2_with (first | (go_at_call 46; refine (isHeight_any _ _).mono ?_; rintro e w' ⟨rfl, rfl⟩) | (go_at_call 47; refine (between_any _ _ _ _).mono ?_; rintro e w' ⟨rfl, rfl⟩))
      go_ret
      exact ⟨ret_int hs.out.symm, rfl⟩
    · have k2 : betweenB p 0 h = false := by simpa using k2
      have hs : Hid (gCode p h = 2) := by show _ = _; simp [gCode, stRange, k2]
      go_enter Try.func65, Try.ntmps65
      go_wp2_with (first | (go_at_call 46; refine (isHeight_any _ _).mono ?_; rintro e w' ⟨rfl, rfl⟩) | (go_at_call 47; refine (between_any _ _ _ _).mono ?_; rintro e w' ⟨rfl, rfl⟩))
      go_ret
      exact ⟨ret_int hs.out.symm, rfl⟩
  · have k : betweenB h 1 10 = false := by simpa using k
    have hs : Hid (gCode p h = 2) := by show _ = _; simp [gCode, stRange, k]
    go_enter Try.func65, Try.ntmps65
    go_wp2_with (first | (go_at_call 46; refine (isHeight_any _ _).mono ?_; rintro e w' ⟨rfl, rfl⟩) | (go_at_call 47; refine (between_any _ _ _ _).mono ?_; rintro e w' ⟨rfl, rfl⟩))
    go_ret
    exact ⟨ret_int hs.out.symm, rfl⟩
theorem l09Code_any (p h : Int) (w : World) :
    Calls Try.prog 63 #[.int .i64 p, .int .i64 h] w fun e w' => e = .returned (.int .i64 (gCode p h)) ∧ w = w' := by
  by_cases k : betweenB h 1 10 = true
  · by_cases k2 : betweenB p 0 h = true
    · have hs : Hid (gCode p h = 0) := by show _ = _; simp [gCode, stRange, k, k2]
      go_enter Try.func63, Try.ntmps63
      go_wp2_with (first | (go_at_call 48; refine (l08Height_any _ _).mono ?_; rintro e w' ⟨rfl, rfl⟩) | (go_at_call 49; refine (l00In_any _ _ _ _).mono ?_; rintro e w' ⟨rfl, rfl⟩))
      go_ret
      exact ⟨ret_int hs.out.symm, rfl⟩
    · have k2 : betweenB p 0 h = false := by simpa using k2
      have hs : Hid (gCode p h = 2) := by show _ = _; simp [gCode, stRange, k2]
      go_enter Try.func63, Try.ntmps63
      go_wp2_with (first | (go_at_call 48; refine (l08Height_any _ _).mono ?_; rintro e w' ⟨rfl, rfl⟩) | (go_at_call 49; refine (l00In_any _ _ _ _).mono ?_; rintro e w' ⟨rfl, rfl⟩))
      go_ret
      exact ⟨ret_int hs.out.symm, rfl⟩
  · have k : betweenB h 1 10 = false := by simpa using k
    have hs : Hid (gCode p h = 2) := by show _ = _; simp [gCode, stRange, k]
    go_enter Try.func63, Try.ntmps63
    go_wp2_with (first | (go_at_call 48; refine (l08Height_any _ _).mono ?_; rintro e w' ⟨rfl, rfl⟩) | (go_at_call 49; refine (l00In_any _ _ _ _).mono ?_; rintro e w' ⟨rfl, rfl⟩))
    go_ret
    exact ⟨ret_int hs.out.symm, rfl⟩
def rStateCount (p h : Int) : Int × Int := if stRange p h then (((msks p h).length : Int), 0) else (0, 2)
theorem StateCount_any (p h : Int) (w : World) :
    Calls Try.prog 42 #[.int .i64 p, .int .i64 h] w fun e w' => e = .returned (.tuple #[.int .i64 (rStateCount p h).1, .int .i64 (rStateCount p h).2]) ∧ Below w.heap.size w w' := by
  by_cases k : stRange p h = true
  · obtain ⟨h1, h2⟩ := stRange_h k
    have hg : gCode p h = 0 := by simp [gCode, k]
    have hq := graphCode_any p h
    rw [hg] at hq
    have hq := hid hq
    have hs : Hid (rStateCount p h = (((msks p h).length : Int), 0)) := by show _ = _; simp [rStateCount, k]
    have hl := msks_len (p := p) h1 h2
    clear hg
    go_enter Try.func42, Try.ntmps42
    go_wp2_with (first | (go_at_call 65; refine (hq.out _).mono ?_; rintro e w' ⟨rfl, rfl⟩) | (go_at_call 66; refine (allStates_any _ _ _ h1 h2).mono ?_; rintro e w1 ⟨v1, rfl, ho1, hb1⟩; obtain ⟨A1, c1, rfl⟩ := own_form ho1))
    go_ret2
    exact ⟨by rw [hs.out]; rfl, hb1⟩
  · have hg : gCode p h = 2 := by simp [gCode, k]
    have hq := graphCode_any p h
    rw [hg] at hq
    have hq := hid hq
    have hs : Hid (rStateCount p h = (0, 2)) := by show _ = _; simp [rStateCount, k]
    clear hg
    go_enter Try.func42, Try.ntmps42
    go_wp2_with (first | (go_at_call 65; refine (hq.out _).mono ?_; rintro e w' ⟨rfl, rfl⟩))
    go_ret2
    exact ⟨by rw [hs.out]; rfl, (by repeat' (first | exact Below.refl _ _ | (with_reducible assumption) | (with_reducible refine Below.alloc ?_ ?_ _) | (with_reducible refine Below.setCell ?_ ?_ _) | (with_reducible refine Below.drew ?_) | (with_reducible refine below_drewN ?_ _) | (refine Below.trans ?_ (Below.mono (by assumption) ?_)) | (with_reducible exact Nat.le_refl _) | (with_reducible assumption) | (exact Below.size (by assumption)) | omega | go_size | (simp at *; omega)))⟩
theorem specStateCount_any (p h : Int) (w : World) :
    Calls Try.prog 41 #[.int .i64 p, .int .i64 h] w fun e w' => e = .returned (.tuple #[.int .i64 (rStateCount p h).1, .int .i64 (rStateCount p h).2]) ∧ Below w.heap.size w w' := by
  by_cases k : stRange p h = true
  · obtain ⟨h1, h2⟩ := stRange_h k
    have hg : gCode p h = 0 := by simp [gCode, k]
    have hq := l09Code_any p h
    rw [hg] at hq
    have hq := hid hq
    have hs : Hid (rStateCount p h = (((msks p h).length : Int), 0)) := by show _ = _; simp [rStateCount, k]
    have hl := msks_len (p := p) h1 h2
    clear hg
    go_enter Try.func41, Try.ntmps41
    go_wp2_with (first | (go_at_call 63; refine (hq.out _).mono ?_; rintro e w' ⟨rfl, rfl⟩) | (go_at_call 64; refine (l09Masks_any _ _ _ h1 h2).mono ?_; rintro e w1 ⟨v1, rfl, ho1, hb1⟩; obtain ⟨A1, c1, rfl⟩ := own_form ho1))
    go_ret2
    exact ⟨by rw [hs.out]; rfl, hb1⟩
  · have hg : gCode p h = 2 := by simp [gCode, k]
    have hq := l09Code_any p h
    rw [hg] at hq
    have hq := hid hq
    have hs : Hid (rStateCount p h = (0, 2)) := by show _ = _; simp [rStateCount, k]
    clear hg
    go_enter Try.func41, Try.ntmps41
    go_wp2_with (first | (go_at_call 63; refine (hq.out _).mono ?_; rintro e w' ⟨rfl, rfl⟩))
    go_ret2
    exact ⟨by rw [hs.out]; rfl, (by repeat' (first | exact Below.refl _ _ | (with_reducible assumption) | (with_reducible refine Below.alloc ?_ ?_ _) | (with_reducible refine Below.setCell ?_ ?_ _) | (with_reducible refine Below.drew ?_) | (with_reducible refine below_drewN ?_ _) | (refine Below.trans ?_ (Below.mono (by assumption) ?_)) | (with_reducible exact Nat.le_refl _) | (with_reducible assumption) | (exact Below.size (by assumption)) | omega | go_size | (simp at *; omega)))⟩
def rAllStates (p h : Int) : List Int × Int := if stRange p h then (msks p h, 0) else ([], 2)
theorem AllStates_len (p h : Int) : (rAllStates p h).1.length ≤ 1024 := by
  unfold rAllStates
  split
  · rename_i k; exact msks_len (stRange_h k).1 (stRange_h k).2
  · simp
end Go.Proofs.Ytegapfkmgfcolaa
