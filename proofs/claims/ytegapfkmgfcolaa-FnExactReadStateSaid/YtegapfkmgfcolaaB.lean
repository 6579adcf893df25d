/- Contracts of the functions of states, and the walks of the first laws. -/
import Derived.Test.YtegapfkmgfcolaaA
namespace Go.Proofs.Ytegapfkmgfcolaa
open Go.RowKit
set_option linter.unusedVariables false
theorem specNextState_any (h m t : Int) (w : World) :
    Calls Try.prog 43 #[.agg #[.int .i64 h, .int .i64 m], .int .i64 t] w fun e w' => e = .returned (stRes (nextSt h m t)) ∧ Below w.heap.size w w' := by
  by_cases k : stOk h m = true
  · have hk := stOk_iff k
    by_cases c : canB h m t = true
    · have ht := canB_le k c
      have hs : Hid (stRes (nextSt h m t) = .tuple #[.agg #[.int .i64 h, .int .i64 (nextM m t)], .int .i64 0]) := by show _ = _; simp [nextSt, stRes, k, c]
      obtain ⟨hk1, hk2, hk3, _, _⟩ := hk
      go_enter Try.func43, Try.ntmps43
      go_wp2_with (first | (go_at_call 45; refine (l08Ok_any _ _ _).mono ?_; rintro e w1 ⟨rfl, hb1⟩; first | (have hk1 := bchain (by assumption) hb1; obtain ⟨hc1, hf1, hz1, hl1⟩ := bcell hk1) | (obtain ⟨hc1, hf1, hz1, hl1⟩ := bcell hb1)) | (go_at_call 51; refine (l08Can_any _ _ _ _ (by omega)).mono ?_; rintro e w1 ⟨rfl, hb1⟩; first | (have hk1 := bchain (by assumption) hb1; obtain ⟨hc1, hf1, hz1, hl1⟩ := bcell hk1) | (obtain ⟨hc1, hf1, hz1, hl1⟩ := bcell hb1)) | (go_at_call 67; refine (l08Next_any _ _ _ _ (by omega) (by omega)).mono ?_; rintro e w1 ⟨rfl, hb1⟩; first | (have hk1 := bchain (by assumption) hb1; obtain ⟨hc1, hf1, hz1, hl1⟩ := bcell hk1) | (obtain ⟨hc1, hf1, hz1, hl1⟩ := bcell hb1)))
      refine bodyPost_ret (v := stRes (nextSt h m t)) ?_ rfl ⟨rfl, ?_⟩
      · rw [hs.out]; simp (maxDischargeDepth := 8) [results, Try.results43, go_sem, *]
      · exact (by repeat' (first | exact Below.refl _ _ | (with_reducible assumption) | (with_reducible refine Below.alloc ?_ ?_ _) | (with_reducible refine Below.setCell ?_ ?_ _) | (with_reducible refine Below.drew ?_) | (with_reducible refine below_drewN ?_ _) | (refine Below.trans ?_ (Below.mono (by assumption) ?_)) | (with_reducible exact Nat.le_refl _) | (with_reducible assumption) | (exact Below.size (by assumption)) | omega | go_size | (simp at *; omega)))
    · have c : canB h m t = false := by simpa using c
      have hs : Hid (stRes (nextSt h m t) = .tuple #[.agg #[.int .i64 0, .int .i64 0], .int .i64 6]) := by show _ = _; simp [nextSt, stRes, k, c]
      obtain ⟨hk1, hk2, hk3, _, _⟩ := hk
      go_enter Try.func43, Try.ntmps43
      go_wp2_with (first | (go_at_call 45; refine (l08Ok_any _ _ _).mono ?_; rintro e w1 ⟨rfl, hb1⟩; first | (have hk1 := bchain (by assumption) hb1; obtain ⟨hc1, hf1, hz1, hl1⟩ := bcell hk1) | (obtain ⟨hc1, hf1, hz1, hl1⟩ := bcell hb1)) | (go_at_call 51; refine (l08Can_any _ _ _ _ (by omega)).mono ?_; rintro e w1 ⟨rfl, hb1⟩; first | (have hk1 := bchain (by assumption) hb1; obtain ⟨hc1, hf1, hz1, hl1⟩ := bcell hk1) | (obtain ⟨hc1, hf1, hz1, hl1⟩ := bcell hb1)) | (go_at_call 67; refine (l08Next_any _ _ _ _ (by omega) (by omega)).mono ?_; rintro e w1 ⟨rfl, hb1⟩; first | (have hk1 := bchain (by assumption) hb1; obtain ⟨hc1, hf1, hz1, hl1⟩ := bcell hk1) | (obtain ⟨hc1, hf1, hz1, hl1⟩ := bcell hb1)))
      refine bodyPost_ret (v := stRes (nextSt h m t)) ?_ rfl ⟨rfl, ?_⟩
      · rw [hs.out]; simp (maxDischargeDepth := 8) [results, Try.results43, go_sem, *]
      · exact (by repeat' (first | exact Below.refl _ _ | (with_reducible assumption) | (with_reducible refine Below.alloc ?_ ?_ _) | (with_reducible refine Below.setCell ?_ ?_ _) | (with_reducible refine Below.drew ?_) | (with_reducible refine below_drewN ?_ _) | (refine Below.trans ?_ (Below.mono (by assumption) ?_)) | (with_reducible exact Nat.le_refl _) | (with_reducible assumption) | (exact Below.size (by assumption)) | omega | go_size | (simp at *; omega)))
  · have k : stOk h m = false := by simpa using k
    have hs : Hid (stRes (nextSt h m t) = .tuple #[.agg #[.int .i64 0, .int .i64 0], .int .i64 1]) := by show _ = _; simp [nextSt, stRes, k]
    go_enter Try.func43, Try.ntmps43
    go_wp2_with (first | (go_at_call 45; refine (l08Ok_any _ _ _).mono ?_; rintro e w1 ⟨rfl, hb1⟩; first | (have hk1 := bchain (by assumption) hb1; obtain ⟨hc1, hf1, hz1, hl1⟩ := bcell hk1) | (obtain ⟨hc1, hf1, hz1, hl1⟩ := bcell hb1)) | (go_at_call 51; refine (l08Can_any _ _ _ _ (by omega)).mono ?_; rintro e w1 ⟨rfl, hb1⟩; first | (have hk1 := bchain (by assumption) hb1; obtain ⟨hc1, hf1, hz1, hl1⟩ := bcell hk1) | (obtain ⟨hc1, hf1, hz1, hl1⟩ := bcell hb1)) | (go_at_call 67; refine (l08Next_any _ _ _ _ (by omega) (by omega)).mono ?_; rintro e w1 ⟨rfl, hb1⟩; first | (have hk1 := bchain (by assumption) hb1; obtain ⟨hc1, hf1, hz1, hl1⟩ := bcell hk1) | (obtain ⟨hc1, hf1, hz1, hl1⟩ := bcell hb1)))
    refine bodyPost_ret (v := stRes (nextSt h m t)) ?_ rfl ⟨rfl, ?_⟩
    · rw [hs.out]; simp (maxDischargeDepth := 8) [results, Try.results43, go_sem, *]
    · exact (by repeat' (first | exact Below.refl _ _ | (with_reducible assumption) | (with_reducible refine Below.alloc ?_ ?_ _) | (with_reducible refine Below.setCell ?_ ?_ _) | (with_reducible refine Below.drew ?_) | (with_reducible refine below_drewN ?_ _) | (refine Below.trans ?_ (Below.mono (by assumption) ?_)) | (with_reducible exact Nat.le_refl _) | (with_reducible assumption) | (exact Below.size (by assumption)) | omega | go_size | (simp at *; omega)))
def groundSt (p h : Int) : Int × Int × Int := if betweenB h 1 10 && betweenB p 0 h then (h, 2 ^ p.toNat - 1, 0) else (0, 0, 2)
theorem ground_yes {p h : Int} (k : betweenB h 1 10 = true) (k2 : betweenB p 0 h = true) : stRes (groundSt p h) = .tuple #[.agg #[.int .i64 h, .int .i64 (2 ^ p.toNat - 1)], .int .i64 0] := by simp [groundSt, stRes, k, k2]
theorem ground_no {p h : Int} (k : betweenB h 1 10 = false) : stRes (groundSt p h) = .tuple #[.agg #[.int .i64 0, .int .i64 0], .int .i64 2] := by simp [groundSt, stRes, k]
theorem ground_no2 {p h : Int} (k : betweenB p 0 h = false) : stRes (groundSt p h) = .tuple #[.agg #[.int .i64 0, .int .i64 0], .int .i64 2] := by simp [groundSt, stRes, k]
theorem groundState_any (p h : Int) (w : World) :
    Calls Try.prog 19 #[.int .i64 p, .int .i64 h] w fun e w' => e = .returned (stRes (groundSt p h)) ∧ Below w.heap.size w w' := by
  by_cases k : betweenB h 1 10 = true
  · by_cases k2 : betweenB p 0 h = true
    · have hs := hid (ground_yes k k2)
      have b1 := (betweenB_iff _ _ _).1 k
      have b2 := (betweenB_iff _ _ _).1 k2
      obtain ⟨p1, p2, p3⟩ := pow_wrap p (by omega) (by omega)
      go_enter Try.func19, Try.ntmps19
      go_wp2_with (first | (go_at_call 46; refine (isHeight_any _ _).mono ?_; rintro e w' ⟨rfl, rfl⟩) | (go_at_call 47; refine (between_any _ _ _ _).mono ?_; rintro e w' ⟨rfl, rfl⟩))
      refine bodyPost_ret (v := stRes (groundSt p h)) ?_ rfl ⟨rfl, ?_⟩
      · rw [hs.out]; simp (maxDischargeDepth := 8) [results, Try.results19, go_sem, *]
      · exact (by repeat' (first | exact Below.refl _ _ | (with_reducible assumption) | (with_reducible refine Below.alloc ?_ ?_ _) | (with_reducible refine Below.setCell ?_ ?_ _) | (with_reducible refine Below.drew ?_) | (with_reducible refine below_drewN ?_ _) | (refine Below.trans ?_ (Below.mono (by assumption) ?_)) | (with_reducible exact Nat.le_refl _) | (with_reducible assumption) | (exact Below.size (by assumption)) | omega | go_size | (simp at *; omega)))
    · have k2 : betweenB p 0 h = false := by simpa using k2
      have hs := hid (ground_no2 k2)
      go_enter Try.func19, Try.ntmps19
      go_wp2_with (first | (go_at_call 46; refine (isHeight_any _ _).mono ?_; rintro e w' ⟨rfl, rfl⟩) | (go_at_call 47; refine (between_any _ _ _ _).mono ?_; rintro e w' ⟨rfl, rfl⟩))
      refine bodyPost_ret (v := stRes (groundSt p h)) ?_ rfl ⟨rfl, ?_⟩
      · rw [hs.out]; simp (maxDischargeDepth := 8) [results, Try.results19, go_sem, *]
      · exact (by repeat' (first | exact Below.refl _ _ | (with_reducible assumption) | (with_reducible refine Below.alloc ?_ ?_ _) | (with_reducible refine Below.setCell ?_ ?_ _) | (with_reducible refine Below.drew ?_) | (with_reducible refine below_drewN ?_ _) | (refine Below.trans ?_ (Below.mono (by assumption) ?_)) | (with_reducible exact Nat.le_refl _) | (with_reducible assumption) | (exact Below.size (by assumption)) | omega | go_size | (simp at *; omega)))
  · have k : betweenB h 1 10 = false := by simpa using k
    have hs := hid (ground_no (p := p) k)
    go_enter Try.func19, Try.ntmps19
    go_wp2_with (first | (go_at_call 46; refine (isHeight_any _ _).mono ?_; rintro e w' ⟨rfl, rfl⟩) | (go_at_call 47; refine (between_any _ _ _ _).mono ?_; rintro e w' ⟨rfl, rfl⟩))
    refine bodyPost_ret (v := stRes (groundSt p h)) ?_ rfl ⟨rfl, ?_⟩
    · rw [hs.out]; simp (maxDischargeDepth := 8) [results, Try.results19, go_sem, *]
    · exact (by repeat' (first | exact Below.refl _ _ | (with_reducible assumption) | (with_reducible refine Below.alloc ?_ ?_ _) | (with_reducible refine Below.setCell ?_ ?_ _) | (with_reducible refine Below.drew ?_) | (with_reducible refine below_drewN ?_ _) | (refine Below.trans ?_ (Below.mono (by assumption) ?_)) | (with_reducible exact Nat.le_refl _) | (with_reducible assumption) | (exact Below.size (by assumption)) | omega | go_size | (simp at *; omega)))
theorem l08Ground_any (p : Int) (w : World) (h0 : 0 ≤ p) (h1 : p ≤ 62) :
    Calls Try.prog 50 #[.int .i64 p] w fun e w' => e = .returned (.int .i64 (2 ^ p.toNat - 1)) ∧ w = w' := by
  obtain ⟨p1, p2, p3⟩ := pow_wrap p (by omega) (by omega)
  go_enter Try.func50, Try.ntmps50
  go_wp2
  go_ret
  exact ⟨rfl, rfl⟩
theorem specGroundState_any (p h : Int) (w : World) :
    Calls Try.prog 18 #[.int .i64 p, .int .i64 h] w fun e w' => e = .returned (stRes (groundSt p h)) ∧ Below w.heap.size w w' := by
  by_cases k : betweenB h 1 10 = true
  · by_cases k2 : betweenB p 0 h = true
    · have hs := hid (ground_yes k k2)
      have b1 := (betweenB_iff _ _ _).1 k
      have b2 := (betweenB_iff _ _ _).1 k2
      go_enter Try.func18, Try.ntmps18
      go_wp2_with (first | (go_at_call 48; refine (l08Height_any _ _).mono ?_; rintro e w' ⟨rfl, rfl⟩) | (go_at_call 49; refine (l00In_any _ _ _ _).mono ?_; rintro e w' ⟨rfl, rfl⟩) | (go_at_call 50; refine (l08Ground_any _ _ (by omega) (by omega)).mono ?_; rintro e w' ⟨rfl, rfl⟩))
      refine bodyPost_ret (v := stRes (groundSt p h)) ?_ rfl ⟨rfl, ?_⟩
      · rw [hs.out]; simp (maxDischargeDepth := 8) [results, Try.results18, go_sem, *]
      · exact (by repeat' (first | exact Below.refl _ _ | (with_reducible assumption) | (with_reducible refine Below.alloc ?_ ?_ _) | (with_reducible refine Below.setCell ?_ ?_ _) | (with_reducible refine Below.drew ?_) | (with_reducible refine below_drewN ?_ _) | (refine Below.trans ?_ (Below.mono (by assumption) ?_)) | (with_reducible exact Nat.le_refl _) | (with_reducible assumption) | (exact Below.size (by assumption)) | omega | go_size | (simp at *; omega)))
    · have k2 : betweenB p 0 h = false := by simpa using k2
      have hs := hid (ground_no2 k2)
      go_enter Try.func18, Try.ntmps18
      go_wp2_with (first | (go_at_call 48; refine (l08Height_any _ _).mono ?_; rintro e w' ⟨rfl, rfl⟩) | (go_at_call 49; refine (l00In_any _ _ _ _).mono ?_; rintro e w' ⟨rfl, rfl⟩))
      refine bodyPost_ret (v := stRes (groundSt p h)) ?_ rfl ⟨rfl, ?_⟩
      · rw [hs.out]; simp (maxDischargeDepth := 8) [results, Try.results18, go_sem, *]
      · exact (by repeat' (first | exact Below.refl _ _ | (with_reducible assumption) | (with_reducible refine Below.alloc ?_ ?_ _) | (with_reducible refine Below.setCell ?_ ?_ _) | (with_reducible refine Below.drew ?_) | (with_reducible refine below_drewN ?_ _) | (refine Below.trans ?_ (Below.mono (by assumption) ?_)) | (with_reducible exact Nat.le_refl _) | (with_reducible assumption) | (exact Below.size (by assumption)) | omega | go_size | (simp at *; omega)))
  · have k : betweenB h 1 10 = false := by simpa using k
    have hs := hid (ground_no (p := p) k)
    go_enter Try.func18, Try.ntmps18
    go_wp2_with (first | (go_at_call 48; refine (l08Height_any _ _).mono ?_; rintro e w' ⟨rfl, rfl⟩) | (go_at_call 49; refine (l00In_any _ _ _ _).mono ?_; rintro e w' ⟨rfl, rfl⟩))
    refine bodyPost_ret (v := stRes (groundSt p h)) ?_ rfl ⟨rfl, ?_⟩
    · rw [hs.out]; simp (maxDischargeDepth := 8) [results, Try.results18, go_sem, *]
    · exact (by repeat' (first | exact Below.refl _ _ | (with_reducible assumption) | (with_reducible refine Below.alloc ?_ ?_ _) | (with_reducible refine Below.setCell ?_ ?_ _) | (with_reducible refine Below.drew ?_) | (with_reducible refine below_drewN ?_ _) | (refine Below.trans ?_ (Below.mono (by assumption) ?_)) | (with_reducible exact Nat.le_refl _) | (with_reducible assumption) | (exact Below.size (by assumption)) | omega | go_size | (simp at *; omega)))
theorem toState_any (h m : Int) (w : World) :
    Calls Try.prog 16 #[.agg #[.int .i64 h, .int .i64 m]] w fun e w' => e = .returned (.agg #[.int .i64 h, .int .i64 m]) ∧ Below w.heap.size w w' := by
  go_enter Try.func16, Try.ntmps16
  go_wp2
  refine bodyPost_ret (v := .agg #[.int .i64 h, .int .i64 m]) ?_ rfl ⟨rfl, ?_⟩
  · simp (maxDischargeDepth := 8) [results, Try.results16, go_sem, *]
  · exact (by repeat' (first | exact Below.refl _ _ | (with_reducible assumption) | (with_reducible refine Below.alloc ?_ ?_ _) | (with_reducible refine Below.setCell ?_ ?_ _) | (with_reducible refine Below.drew ?_) | (with_reducible refine below_drewN ?_ _) | (refine Below.trans ?_ (Below.mono (by assumption) ?_)) | (with_reducible exact Nat.le_refl _) | (with_reducible assumption) | (exact Below.size (by assumption)) | omega | go_size | (simp at *; omega)))
theorem eqState_same (h m : Int) (w : World) :
    Calls Try.prog 20 #[.agg #[.int .i64 h, .int .i64 m], .agg #[.int .i64 h, .int .i64 m]] w fun e w' => e = .returned (.bool true) ∧ Below w.heap.size w w' := by
  go_enter Try.func20, Try.ntmps20
  go_wp2
  go_ret
  exact ⟨rfl, (by repeat' (first | exact Below.refl _ _ | (with_reducible assumption) | (with_reducible refine Below.alloc ?_ ?_ _) | (with_reducible refine Below.setCell ?_ ?_ _) | (with_reducible refine Below.drew ?_) | (with_reducible refine below_drewN ?_ _) | (refine Below.trans ?_ (Below.mono (by assumption) ?_)) | (with_reducible exact Nat.le_refl _) | (with_reducible assumption) | (exact Below.size (by assumption)) | omega | go_size | (simp at *; omega)))⟩
theorem fnExactValidState_walk (w : World) (h m : Int) (_ : BD h) (_ : BD m) :
    Calls Try.prog 3 #[.agg #[.int .i64 h, .int .i64 m]] w fun e w' => e = .returned (.bool true) ∧ Below w.heap.size w w' := by
  go_enter Try.func3, Try.ntmps3
  go_wp2_with (first | (go_at_call 16; refine (toState_any _ _ _).mono ?_; rintro e w1 ⟨rfl, hb1⟩; first | (have hk1 := bchain (by assumption) hb1; obtain ⟨hc1, hf1, hz1, hl1⟩ := bcell hk1) | (obtain ⟨hc1, hf1, hz1, hl1⟩ := bcell hb1)) | (go_at_call 15; refine (specValidState_any _ _ _).mono ?_; rintro e w1 ⟨rfl, hb1⟩; first | (have hk1 := bchain (by assumption) hb1; obtain ⟨hc1, hf1, hz1, hl1⟩ := bcell hk1) | (obtain ⟨hc1, hf1, hz1, hl1⟩ := bcell hb1)) | (go_at_call 17; refine (validState_any _ _ _).mono ?_; rintro e w1 ⟨rfl, hb1⟩; first | (have hk1 := bchain (by assumption) hb1; obtain ⟨hc1, hf1, hz1, hl1⟩ := bcell hk1) | (obtain ⟨hc1, hf1, hz1, hl1⟩ := bcell hb1)))
  go_ret
  exact ⟨rfl, (by repeat' (first | exact Below.refl _ _ | (with_reducible assumption) | (with_reducible refine Below.alloc ?_ ?_ _) | (with_reducible refine Below.setCell ?_ ?_ _) | (with_reducible refine Below.drew ?_) | (with_reducible refine below_drewN ?_ _) | (refine Below.trans ?_ (Below.mono (by assumption) ?_)) | (with_reducible exact Nat.le_refl _) | (with_reducible assumption) | (exact Below.size (by assumption)) | omega | go_size | (simp at *; omega)))⟩
theorem fnExactGroundState_walk (w : World) (p : Int) (_ : BD p) (h : Int) (_ : BD h) :
    Calls Try.prog 4 #[.int .i64 p, .int .i64 h] w fun e w' => e = .returned (.bool true) ∧ Below w.heap.size w w' := by
  obtain ⟨⟨a, b, c⟩, hs⟩ : ∃ r, r = groundSt p h := ⟨_, rfl⟩
  have h1 := specGroundState_any p h
  have h2 := groundState_any p h
  rw [← hs] at h1 h2
  unfold stRes at h1 h2
  have h1 := hid h1
  have h2 := hid h2
  clear hs
  go_enter Try.func4, Try.ntmps4
  go_wp2_with (first | (go_at_call 18; refine (h1.out _).mono ?_; rintro e w1 ⟨rfl, hb1⟩; first | (have hk1 := bchain (by assumption) hb1; obtain ⟨hc1, hf1, hz1, hl1⟩ := bcell hk1) | (obtain ⟨hc1, hf1, hz1, hl1⟩ := bcell hb1)) | (go_at_call 19; refine (h2.out _).mono ?_; rintro e w1 ⟨rfl, hb1⟩; first | (have hk1 := bchain (by assumption) hb1; obtain ⟨hc1, hf1, hz1, hl1⟩ := bcell hk1) | (obtain ⟨hc1, hf1, hz1, hl1⟩ := bcell hb1)) | (go_at_call 20; refine (eqState_same _ _ _).mono ?_; rintro e w1 ⟨rfl, hb1⟩; first | (have hk1 := bchain (by assumption) hb1; obtain ⟨hc1, hf1, hz1, hl1⟩ := bcell hk1) | (obtain ⟨hc1, hf1, hz1, hl1⟩ := bcell hb1)))
  go_ret
  exact ⟨rfl, (by repeat' (first | exact Below.refl _ _ | (with_reducible assumption) | (with_reducible refine Below.alloc ?_ ?_ _) | (with_reducible refine Below.setCell ?_ ?_ _) | (with_reducible refine Below.drew ?_) | (with_reducible refine below_drewN ?_ _) | (refine Below.trans ?_ (Below.mono (by assumption) ?_)) | (with_reducible exact Nat.le_refl _) | (with_reducible assumption) | (exact Below.size (by assumption)) | omega | go_size | (simp at *; omega)))⟩
theorem fnExactCanThrow_walk (w : World) (h m : Int) (_ : BD h) (_ : BD m) (t : Int) (_ : BD t) :
    Calls Try.prog 5 #[.agg #[.int .i64 h, .int .i64 m], .int .i64 t] w fun e w' => e = .returned (.bool true) ∧ Below w.heap.size w w' := by
  go_enter Try.func5, Try.ntmps5
  go_wp2_with (first | (go_at_call 16; refine (toState_any _ _ _).mono ?_; rintro e w1 ⟨rfl, hb1⟩; first | (have hk1 := bchain (by assumption) hb1; obtain ⟨hc1, hf1, hz1, hl1⟩ := bcell hk1) | (obtain ⟨hc1, hf1, hz1, hl1⟩ := bcell hb1)) | (go_at_call 21; refine (specCanThrow_any _ _ _ _).mono ?_; rintro e w1 ⟨rfl, hb1⟩; first | (have hk1 := bchain (by assumption) hb1; obtain ⟨hc1, hf1, hz1, hl1⟩ := bcell hk1) | (obtain ⟨hc1, hf1, hz1, hl1⟩ := bcell hb1)) | (go_at_call 22; refine (canThrow_any _ _ _ _).mono ?_; rintro e w1 ⟨rfl, hb1⟩; first | (have hk1 := bchain (by assumption) hb1; obtain ⟨hc1, hf1, hz1, hl1⟩ := bcell hk1) | (obtain ⟨hc1, hf1, hz1, hl1⟩ := bcell hb1)))
  go_ret
  exact ⟨rfl, (by repeat' (first | exact Below.refl _ _ | (with_reducible assumption) | (with_reducible refine Below.alloc ?_ ?_ _) | (with_reducible refine Below.setCell ?_ ?_ _) | (with_reducible refine Below.drew ?_) | (with_reducible refine below_drewN ?_ _) | (refine Below.trans ?_ (Below.mono (by assumption) ?_)) | (with_reducible exact Nat.le_refl _) | (with_reducible assumption) | (exact Below.size (by assumption)) | omega | go_size | (simp at *; omega)))⟩
theorem fnExactNextState_walk (w : World) (h m : Int) (_ : BD h) (_ : BD m) (t : Int) (_ : BD t) :
    Calls Try.prog 14 #[.agg #[.int .i64 h, .int .i64 m], .int .i64 t] w fun e w' => e = .returned (.bool true) ∧ Below w.heap.size w w' := by
  obtain ⟨⟨a, b, c⟩, hs⟩ : ∃ r, r = nextSt h m t := ⟨_, rfl⟩
  have h1 := specNextState_any h m t
  have h2 := nextState_any h m t
  rw [← hs] at h1 h2
  unfold stRes at h1 h2
  have h1 := hid h1
  have h2 := hid h2
  clear hs
  go_enter Try.func14, Try.ntmps14
  go_wp2_with (first | (go_at_call 16; refine (toState_any _ _ _).mono ?_; rintro e w1 ⟨rfl, hb1⟩; first | (have hk1 := bchain (by assumption) hb1; obtain ⟨hc1, hf1, hz1, hl1⟩ := bcell hk1) | (obtain ⟨hc1, hf1, hz1, hl1⟩ := bcell hb1)) | (go_at_call 43; refine (h1.out _).mono ?_; rintro e w1 ⟨rfl, hb1⟩; first | (have hk1 := bchain (by assumption) hb1; obtain ⟨hc1, hf1, hz1, hl1⟩ := bcell hk1) | (obtain ⟨hc1, hf1, hz1, hl1⟩ := bcell hb1)) | (go_at_call 44; refine (h2.out _).mono ?_; rintro e w1 ⟨rfl, hb1⟩; first | (have hk1 := bchain (by assumption) hb1; obtain ⟨hc1, hf1, hz1, hl1⟩ := bcell hk1) | (obtain ⟨hc1, hf1, hz1, hl1⟩ := bcell hb1)) | (go_at_call 20; refine (eqState_same _ _ _).mono ?_; rintro e w1 ⟨rfl, hb1⟩; first | (have hk1 := bchain (by assumption) hb1; obtain ⟨hc1, hf1, hz1, hl1⟩ := bcell hk1) | (obtain ⟨hc1, hf1, hz1, hl1⟩ := bcell hb1)))
  go_ret
  exact ⟨rfl, (by repeat' (first | exact Below.refl _ _ | (with_reducible assumption) | (with_reducible refine Below.alloc ?_ ?_ _) | (with_reducible refine Below.setCell ?_ ?_ _) | (with_reducible refine Below.drew ?_) | (with_reducible refine below_drewN ?_ _) | (refine Below.trans ?_ (Below.mono (by assumption) ?_)) | (with_reducible exact Nat.le_refl _) | (with_reducible assumption) | (exact Below.size (by assumption)) | omega | go_size | (simp at *; omega)))⟩
end Go.Proofs.Ytegapfkmgfcolaa
