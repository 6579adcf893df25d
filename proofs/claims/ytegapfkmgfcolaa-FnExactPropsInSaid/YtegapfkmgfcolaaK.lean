/- Contracts of PropsIn and AverageOf, and the walks of their laws. -/
import Derived.Test.YtegapfkmgfcolaaB
import Derived.Test.YtegapfkmgfcolaaE
namespace Go.Proofs.Ytegapfkmgfcolaa
open Go.RowKit
set_option linter.unusedVariables false

def rPropsIn (h m : Int) : Int × Int := if stOk h m then (popc h.toNat m, 0) else (0, 1)
theorem stOk_lt {h m : Int} (k : stOk h m = true) : m < 2 ^ h.toNat := by have := (stOk_iff k).2.2.2.1; omega
theorem PropsIn_any (h m : Int) (w : World) :
    Calls Try.prog 33 #[.agg #[.int .i64 h, .int .i64 m]] w fun e w' => e = .returned (.tuple #[.int .i64 (rPropsIn h m).1, .int .i64 (rPropsIn h m).2]) ∧ Below w.heap.size w w' := by
  by_cases k : stOk h m = true
  · obtain ⟨k1, k2, k3, _, k5⟩ := stOk_iff k
    have hs : Hid (rPropsIn h m = (popc h.toNat m, 0)) := by show _ = _; simp [rPropsIn, k]
    go_enter Try.func33, Try.ntmps33
    go_wp2_with (first | (go_at_call 17; refine (validState_any _ _ _).mono ?_; rintro e w1 ⟨rfl, hb1⟩; first | (have hk1 := bchain (by assumption) hb1; obtain ⟨hc1, hf1, hz1, hl1⟩ := bcell hk1) | (obtain ⟨hc1, hf1, hz1, hl1⟩ := bcell hb1)) | (go_at_call 58; refine (props_any _ _ _ (by omega) (by omega) (by omega) (by omega)).mono ?_; rintro e w1 ⟨rfl, hb1⟩; first | (have hk1 := bchain (by assumption) hb1; obtain ⟨hc1, hf1, hz1, hl1⟩ := bcell hk1) | (obtain ⟨hc1, hf1, hz1, hl1⟩ := bcell hb1)))
    go_ret2
    exact ⟨by rw [hs.out]; rfl, (by repeat' (first | exact Below.refl _ _ | (with_reducible assumption) | (with_reducible refine Below.alloc ?_ ?_ _) | (with_reducible refine Below.setCell ?_ ?_ _) | (with_reducible refine Below.drew ?_) | (with_reducible refine below_drewN ?_ _) | (refine Below.trans ?_ (Below.mono (by assumption) ?_)) | (with_reducible exact Nat.le_refl _) | (with_reducible assumption) | (exact Below.size (by assumption)) | omega | go_size | (simp at *; omega)))⟩
  · have k : stOk h m = false := by simpa using k
    have hs : Hid (rPropsIn h m = (0, 1)) := by show _ = _; simp [rPropsIn, k]
    go_enter Try.func33, Try.ntmps33
    go_wp2_with (first | (go_at_call 17; refine (validState_any _ _ _).mono ?_; rintro e w1 ⟨rfl, hb1⟩; first | (have hk1 := bchain (by assumption) hb1; obtain ⟨hc1, hf1, hz1, hl1⟩ := bcell hk1) | (obtain ⟨hc1, hf1, hz1, hl1⟩ := bcell hb1)))
    go_ret2
    exact ⟨by rw [hs.out]; rfl, (by repeat' (first | exact Below.refl _ _ | (with_reducible assumption) | (with_reducible refine Below.alloc ?_ ?_ _) | (with_reducible refine Below.setCell ?_ ?_ _) | (with_reducible refine Below.drew ?_) | (with_reducible refine below_drewN ?_ _) | (refine Below.trans ?_ (Below.mono (by assumption) ?_)) | (with_reducible exact Nat.le_refl _) | (with_reducible assumption) | (exact Below.size (by assumption)) | omega | go_size | (simp at *; omega)))⟩
theorem specPropsIn_any (h m : Int) (w : World) :
    Calls Try.prog 32 #[.agg #[.int .i64 h, .int .i64 m]] w fun e w' => e = .returned (.tuple #[.int .i64 (rPropsIn h m).1, .int .i64 (rPropsIn h m).2]) ∧ Below w.heap.size w w' := by
  by_cases k : stOk h m = true
  · obtain ⟨k1, k2, k3, _, k5⟩ := stOk_iff k
    have kl := hid (stOk_lt k)
    have hs : Hid (rPropsIn h m = (popc h.toNat m, 0)) := by show _ = _; simp [rPropsIn, k]
    go_enter Try.func32, Try.ntmps32
    go_wp2_with (first | (go_at_call 45; refine (l08Ok_any _ _ _).mono ?_; rintro e w1 ⟨rfl, hb1⟩; first | (have hk1 := bchain (by assumption) hb1; obtain ⟨hc1, hf1, hz1, hl1⟩ := bcell hk1) | (obtain ⟨hc1, hf1, hz1, hl1⟩ := bcell hb1)) | (go_at_call 57; refine (l08Count_any m h.toNat _ k3 (by omega) kl.out).mono ?_; rintro e w' ⟨rfl, rfl⟩))
    go_ret2
    exact ⟨by rw [hs.out]; rfl, (by repeat' (first | exact Below.refl _ _ | (with_reducible assumption) | (with_reducible refine Below.alloc ?_ ?_ _) | (with_reducible refine Below.setCell ?_ ?_ _) | (with_reducible refine Below.drew ?_) | (with_reducible refine below_drewN ?_ _) | (refine Below.trans ?_ (Below.mono (by assumption) ?_)) | (with_reducible exact Nat.le_refl _) | (with_reducible assumption) | (exact Below.size (by assumption)) | omega | go_size | (simp at *; omega)))⟩
  · have k : stOk h m = false := by simpa using k
    have hs : Hid (rPropsIn h m = (0, 1)) := by show _ = _; simp [rPropsIn, k]
    go_enter Try.func32, Try.ntmps32
    go_wp2_with (first | (go_at_call 45; refine (l08Ok_any _ _ _).mono ?_; rintro e w1 ⟨rfl, hb1⟩; first | (have hk1 := bchain (by assumption) hb1; obtain ⟨hc1, hf1, hz1, hl1⟩ := bcell hk1) | (obtain ⟨hc1, hf1, hz1, hl1⟩ := bcell hb1)))
    go_ret2
    exact ⟨by rw [hs.out]; rfl, (by repeat' (first | exact Below.refl _ _ | (with_reducible assumption) | (with_reducible refine Below.alloc ?_ ?_ _) | (with_reducible refine Below.setCell ?_ ?_ _) | (with_reducible refine Below.drew ?_) | (with_reducible refine below_drewN ?_ _) | (refine Below.trans ?_ (Below.mono (by assumption) ?_)) | (with_reducible exact Nat.le_refl _) | (with_reducible assumption) | (exact Below.size (by assumption)) | omega | go_size | (simp at *; omega)))⟩
theorem fnExactPropsIn_walk (w : World) (aSH aSM : Int) (_ : BD aSH) (_ : BD aSM) :
    Calls Try.prog 10 #[.agg #[.int .i64 aSH, .int .i64 aSM]] w fun e w' => e = .returned (.bool true) ∧ Below w.heap.size w w' := by
  have hS := hid (fun  (w1 : World)  => specPropsIn_any aSH aSM w1 )
  have hI := hid (fun  (w1 : World)  => PropsIn_any aSH aSM w1 )
  generalize rPropsIn aSH aSM = r at *
  obtain ⟨r0, r1⟩ := r
  go_enter Try.func10, Try.ntmps10
  go_wp2_with (go_at_call 16; refine (toState_any _ _ _).mono ?_; rintro e w1 ⟨rfl, hb1⟩; have s1 := hb1.size; have hX0 := hb1; have hB : Below w.heap.size w w1 := (by repeat' (first | exact Below.refl _ _ | (with_reducible assumption) | (with_reducible refine Below.alloc ?_ ?_ _) | (with_reducible refine Below.setCell ?_ ?_ _) | (with_reducible refine Below.drew ?_) | (with_reducible refine below_drewN ?_ _) | (refine Below.trans ?_ (Below.mono (by assumption) ?_)) | (with_reducible exact Nat.le_refl _) | (with_reducible assumption) | (exact Below.size (by assumption)) | omega | go_size | (simp at *; omega))); obtain ⟨hchX0, hfhX0, hzhX0, hlhX0⟩ := bcell hX0)
  go_wp2_with (go_at_call 32; refine (hS.out _).mono ?_; rintro e w2 ⟨rfl, hb2⟩; have s2 := hb2.size; replace hB := bchain hB hb2; replace hX0 := bchain hX0 hb2; obtain ⟨hchX0, hfhX0, hzhX0, hlhX0⟩ := bcell hX0)
  go_wp2_with (go_at_call 16; refine (toState_any _ _ _).mono ?_; rintro e w3 ⟨rfl, hb3⟩; have s3 := hb3.size; replace hB := bchain hB hb3; replace hX0 := bchain hX0 hb3; obtain ⟨hchX0, hfhX0, hzhX0, hlhX0⟩ := bcell hX0)
  go_wp2_with (go_at_call 33; refine (hI.out _).mono ?_; rintro e w4 ⟨rfl, hb4⟩; have s4 := hb4.size; replace hB := bchain hB hb4; replace hX0 := bchain hX0 hb4; obtain ⟨hchX0, hfhX0, hzhX0, hlhX0⟩ := bcell hX0)
  go_ret
  exact ⟨rfl, (by repeat' (first | exact Below.refl _ _ | (with_reducible assumption) | (with_reducible refine Below.alloc ?_ ?_ _) | (with_reducible refine Below.setCell ?_ ?_ _) | (with_reducible refine Below.drew ?_) | (with_reducible refine below_drewN ?_ _) | (refine Below.trans ?_ (Below.mono (by assumption) ?_)) | (with_reducible exact Nat.le_refl _) | (with_reducible assumption) | (exact Below.size (by assumption)) | omega | go_size | (simp at *; omega)))⟩
end Go.Proofs.Ytegapfkmgfcolaa
