/- Contracts of PropsOf, HighestOf, ThrowAt, LandsFrom, LandingBeats, of valid patterns. -/
import Derived.Test.YtlbhfjbbkkkldaaPc
import Derived.Test.YtlbhfjbbkkkldaaBt
import Derived.Test.YtlbhfjbbkkkldaaTu
namespace Go.Proofs.Ytlbhfjbbkkkldaa
open Go.RowKit
set_option linter.unusedVariables false

theorem PropsOf_ok (A : Option Addr) (n c : Nat) (p : List Int) (w : World) (hp : okP p = true) (hr : Rd w w.heap.size 1 A n (ints p)) :
    Calls Try.prog 38 #[.slice A n c] w fun e w' => e = .returned (.tuple #[.int .i64 (prN p), .int .i64 0]) ∧ Below w.heap.size w w' := by
  have hlen := hr.len
  have hn2 := (thOk_iff (okP_th hp)).2.2
  have hV := ValidPattern_any A n c p w (by omega) hr
  rw [hp] at hV
  have hV := hid hV
  have hI := hid (fun (w1 : World) (b : Below w.heap.size w w1) => propsOf_any A n c p w1 hp ((hr.below b (Nat.le_refl _)).more b.size))
  generalize prN p = X at *
  clear hp hr hlen hn2
  go_enter Try.func38, Try.ntmps38
  go_wp2_with (first | (go_at_call 97; refine (hV.out).mono ?_; rintro e w1 ⟨rfl, hb1⟩; first | (have hk1 := bchain (by assumption) hb1; obtain ⟨hc1, hf1, hz1, hl1⟩ := bcell hk1) | (obtain ⟨hc1, hf1, hz1, hl1⟩ := bcell hb1)) | (go_at_call 106; refine (hI.out _ hb1).mono ?_; rintro e w2 ⟨rfl, rfl⟩))
  go_ret2
  exact ⟨rfl, (by repeat' (first | exact Below.refl _ _ | (with_reducible assumption) | (with_reducible refine Below.alloc ?_ ?_ _) | (with_reducible refine Below.setCell ?_ ?_ _) | (with_reducible refine Below.drew ?_) | (with_reducible refine below_drewN ?_ _) | (refine Below.trans ?_ (Below.mono (by assumption) ?_)) | (with_reducible exact Nat.le_refl _) | (with_reducible assumption) | (exact Below.size (by assumption)) | omega | go_size | (simp at *; omega)))⟩
theorem specPropsOf_ok (A : Option Addr) (n c : Nat) (p : List Int) (w : World) (hp : okP p = true) (hr : Rd w w.heap.size 1 A n (ints p)) :
    Calls Try.prog 65 #[.slice A n c] w fun e w' => e = .returned (.tuple #[.int .i64 (prN p), .int .i64 0]) ∧ Below w.heap.size w w' := by
  have hlen := hr.len
  have hn2 := (thOk_iff (okP_th hp)).2.2
  have hV := l02Ok_any A n c p w (by omega) hr
  rw [hp] at hV
  have hV := hid hV
  have hI := hid (fun (w1 : World) (b : Below w.heap.size w w1) => l02Props_any A n c p w1 hp ((hr.below b (Nat.le_refl _)).more b.size))
  generalize prN p = X at *
  clear hp hr hlen hn2
  go_enter Try.func65, Try.ntmps65
  go_wp2_with (first | (go_at_call 99; refine (hV.out).mono ?_; rintro e w1 ⟨rfl, hb1⟩; first | (have hk1 := bchain (by assumption) hb1; obtain ⟨hc1, hf1, hz1, hl1⟩ := bcell hk1) | (obtain ⟨hc1, hf1, hz1, hl1⟩ := bcell hb1)) | (go_at_call 127; refine (hI.out _ hb1).mono ?_; rintro e w2 ⟨rfl, rfl⟩))
  go_ret2
  exact ⟨rfl, (by repeat' (first | exact Below.refl _ _ | (with_reducible assumption) | (with_reducible refine Below.alloc ?_ ?_ _) | (with_reducible refine Below.setCell ?_ ?_ _) | (with_reducible refine Below.drew ?_) | (with_reducible refine below_drewN ?_ _) | (refine Below.trans ?_ (Below.mono (by assumption) ?_)) | (with_reducible exact Nat.le_refl _) | (with_reducible assumption) | (exact Below.size (by assumption)) | omega | go_size | (simp at *; omega)))⟩
end Go.Proofs.Ytlbhfjbbkkkldaa
