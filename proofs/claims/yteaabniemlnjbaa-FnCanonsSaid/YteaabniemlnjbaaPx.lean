/- Contracts of PropsOf, HighestOf, ThrowAt, LandsFrom, LandingBeats, of valid patterns. -/
import Derived.Test.YteaabniemlnjbaaPc
import Derived.Test.YteaabniemlnjbaaBt
import Derived.Test.YteaabniemlnjbaaTu
namespace Go.Proofs.Yteaabniemlnjbaa
open Go.RowKit
set_option linter.unusedVariables false

theorem PropsOf_ok (A : Option Addr) (n c : Nat) (p : List Int) (w : World) (hp : okP p = true) (hr : Rd w w.heap.size 1 A n (ints p)) :
    Calls Try.prog 60 #[.slice A n c] w fun e w' => e = .returned (.tuple #[.int .i64 (prN p), .int .i64 0]) ∧ Below w.heap.size w w' := by
  have hlen := hr.len
  have hn2 := (thOk_iff (okP_th hp)).2.2
  have hV := ValidPattern_any A n c p w (by omega) hr
  rw [hp] at hV
  have hV := hid hV
  have hI := hid (fun (w1 : World) (b : Below w.heap.size w w1) => propsOf_any A n c p w1 hp ((hr.below b (Nat.le_refl _)).more b.size))
  generalize prN p = X at *
  clear hp hr hlen hn2
  go_enter Try.func60, Try.ntmps60
  go_wp2_with (first | (go_at_call 64; refine (hV.out).mono ?_; rintro e w1 ⟨rfl, hb1⟩; first | (have hk1 := bchain (by assumption) hb1; obtain ⟨hc1, hf1, hz1, hl1⟩ := bcell hk1) | (obtain ⟨hc1, hf1, hz1, hl1⟩ := bcell hb1)) | (go_at_call 80; refine (hI.out _ hb1).mono ?_; rintro e w2 ⟨rfl, rfl⟩))
  go_ret2
  exact ⟨rfl, (by repeat' (first | exact Below.refl _ _ | (with_reducible assumption) | (with_reducible refine Below.alloc ?_ ?_ _) | (with_reducible refine Below.setCell ?_ ?_ _) | (with_reducible refine Below.drew ?_) | (with_reducible refine below_drewN ?_ _) | (refine Below.trans ?_ (Below.mono (by assumption) ?_)) | (with_reducible exact Nat.le_refl _) | (with_reducible assumption) | (exact Below.size (by assumption)) | omega | go_size | (simp at *; omega)))⟩
theorem specPropsOf_ok (A : Option Addr) (n c : Nat) (p : List Int) (w : World) (hp : okP p = true) (hr : Rd w w.heap.size 1 A n (ints p)) :
    Calls Try.prog 46 #[.slice A n c] w fun e w' => e = .returned (.tuple #[.int .i64 (prN p), .int .i64 0]) ∧ Below w.heap.size w w' := by
  have hlen := hr.len
  have hn2 := (thOk_iff (okP_th hp)).2.2
  have hV := l02Ok_any A n c p w (by omega) hr
  rw [hp] at hV
  have hV := hid hV
  have hI := hid (fun (w1 : World) (b : Below w.heap.size w w1) => l02Props_any A n c p w1 hp ((hr.below b (Nat.le_refl _)).more b.size))
  generalize prN p = X at *
  clear hp hr hlen hn2
  go_enter Try.func46, Try.ntmps46
  go_wp2_with (first | (go_at_call 75; refine (hV.out).mono ?_; rintro e w1 ⟨rfl, hb1⟩; first | (have hk1 := bchain (by assumption) hb1; obtain ⟨hc1, hf1, hz1, hl1⟩ := bcell hk1) | (obtain ⟨hc1, hf1, hz1, hl1⟩ := bcell hb1)) | (go_at_call 77; refine (hI.out _ hb1).mono ?_; rintro e w2 ⟨rfl, rfl⟩))
  go_ret2
  exact ⟨rfl, (by repeat' (first | exact Below.refl _ _ | (with_reducible assumption) | (with_reducible refine Below.alloc ?_ ?_ _) | (with_reducible refine Below.setCell ?_ ?_ _) | (with_reducible refine Below.drew ?_) | (with_reducible refine below_drewN ?_ _) | (refine Below.trans ?_ (Below.mono (by assumption) ?_)) | (with_reducible exact Nat.le_refl _) | (with_reducible assumption) | (exact Below.size (by assumption)) | omega | go_size | (simp at *; omega)))⟩
theorem HighestOf_ok (A : Option Addr) (n c : Nat) (p : List Int) (w : World) (hp : okP p = true) (hr : Rd w w.heap.size 1 A n (ints p)) :
    Calls Try.prog 61 #[.slice A n c] w fun e w' => e = .returned (.tuple #[.int .i64 (hiT p), .int .i64 0]) ∧ Below w.heap.size w w' := by
  have hlen := hr.len
  have hn2 := (thOk_iff (okP_th hp)).2.2
  have hV := ValidPattern_any A n c p w (by omega) hr
  rw [hp] at hV
  have hV := hid hV
  have hI := hid (fun (w1 : World) (b : Below w.heap.size w w1) => highest_any A n c p w1 (by omega) (thOk_iff (okP_th hp)).1 ((hr.below b (Nat.le_refl _)).more b.size))
  generalize hiT p = X at *
  clear hp hr hlen hn2
  go_enter Try.func61, Try.ntmps61
  go_wp2_with (first | (go_at_call 64; refine (hV.out).mono ?_; rintro e w1 ⟨rfl, hb1⟩; first | (have hk1 := bchain (by assumption) hb1; obtain ⟨hc1, hf1, hz1, hl1⟩ := bcell hk1) | (obtain ⟨hc1, hf1, hz1, hl1⟩ := bcell hb1)) | (go_at_call 108; refine (hI.out _ hb1).mono ?_; rintro e w2 ⟨rfl, rfl⟩))
  go_ret2
  exact ⟨rfl, (by repeat' (first | exact Below.refl _ _ | (with_reducible assumption) | (with_reducible refine Below.alloc ?_ ?_ _) | (with_reducible refine Below.setCell ?_ ?_ _) | (with_reducible refine Below.drew ?_) | (with_reducible refine below_drewN ?_ _) | (refine Below.trans ?_ (Below.mono (by assumption) ?_)) | (with_reducible exact Nat.le_refl _) | (with_reducible assumption) | (exact Below.size (by assumption)) | omega | go_size | (simp at *; omega)))⟩
theorem specHighestOf_ok (A : Option Addr) (n c : Nat) (p : List Int) (w : World) (hp : okP p = true) (hr : Rd w w.heap.size 1 A n (ints p)) :
    Calls Try.prog 47 #[.slice A n c] w fun e w' => e = .returned (.tuple #[.int .i64 (hiT p), .int .i64 0]) ∧ Below w.heap.size w w' := by
  have hlen := hr.len
  have hn2 := (thOk_iff (okP_th hp)).2.2
  have hV := l02Ok_any A n c p w (by omega) hr
  rw [hp] at hV
  have hV := hid hV
  have hI := hid (fun (w1 : World) (b : Below w.heap.size w w1) => l02High_any A n c p w1 (by omega) (thOk_iff (okP_th hp)).1 ((hr.below b (Nat.le_refl _)).more b.size))
  generalize hiT p = X at *
  clear hp hr hlen hn2
  go_enter Try.func47, Try.ntmps47
  go_wp2_with (first | (go_at_call 75; refine (hV.out).mono ?_; rintro e w1 ⟨rfl, hb1⟩; first | (have hk1 := bchain (by assumption) hb1; obtain ⟨hc1, hf1, hz1, hl1⟩ := bcell hk1) | (obtain ⟨hc1, hf1, hz1, hl1⟩ := bcell hb1)) | (go_at_call 106; refine (hI.out _ hb1).mono ?_; rintro e w2 ⟨rfl, rfl⟩))
  go_ret2
  exact ⟨rfl, (by repeat' (first | exact Below.refl _ _ | (with_reducible assumption) | (with_reducible refine Below.alloc ?_ ?_ _) | (with_reducible refine Below.setCell ?_ ?_ _) | (with_reducible refine Below.drew ?_) | (with_reducible refine below_drewN ?_ _) | (refine Below.trans ?_ (Below.mono (by assumption) ?_)) | (with_reducible exact Nat.le_refl _) | (with_reducible assumption) | (exact Below.size (by assumption)) | omega | go_size | (simp at *; omega)))⟩
theorem LandingBeats_ok (A : Option Addr) (n c : Nat) (p : List Int) (w : World) (hp : okP p = true) (hr : Rd w w.heap.size 1 A n (ints p)) :
    Calls Try.prog 59 #[.slice A n c] w fun e w' => ∃ v, e = .returned (.tuple #[v, .int .i64 0]) ∧ w'.ownsRow w.heap.size 2 1 v p.length (ints (lnd p)) ∧ Below w.heap.size w w' := by
  have hlen := hr.len
  have hn2 := (thOk_iff (okP_th hp)).2.2
  have hV := ValidPattern_any A n c p w (by omega) hr
  rw [hp] at hV
  have hV := hid hV
  have hI := hid (fun (w1 : World) (b : Below w.heap.size w w1) => landings_any A n c p w1 (okP_th hp) ((hr.below b (Nat.le_refl _)).more b.size))
  clear hp hr hn2
  have hlen := hid hlen
  go_enter Try.func59, Try.ntmps59
  go_wp2_with (first | (go_at_call 64; refine (hV.out).mono ?_; rintro e w1 ⟨rfl, hb1⟩; first | (have hk1 := bchain (by assumption) hb1; obtain ⟨hc1, hf1, hz1, hl1⟩ := bcell hk1) | (obtain ⟨hc1, hf1, hz1, hl1⟩ := bcell hb1)) | (go_at_call 114; refine (hI.out _ hb1).mono ?_; rintro e w2 ⟨v2, rfl, ho2, hb2⟩))
  go_ret2
  rw [hlen.out]
  exact ⟨_, rfl, own_more ho2 hb1.size, (by repeat' (first | exact Below.refl _ _ | (with_reducible assumption) | (with_reducible refine Below.alloc ?_ ?_ _) | (with_reducible refine Below.setCell ?_ ?_ _) | (with_reducible refine Below.drew ?_) | (with_reducible refine below_drewN ?_ _) | (refine Below.trans ?_ (Below.mono (by assumption) ?_)) | (with_reducible exact Nat.le_refl _) | (with_reducible assumption) | (exact Below.size (by assumption)) | omega | go_size | (simp at *; omega)))⟩
theorem ThrowAt_ok (A : Option Addr) (n c : Nat) (p : List Int) (b : Int) (w : World) (b1 : -1000000 ≤ b) (b2 : b ≤ 1000000) (hp : okP p = true) (hr : Rd w w.heap.size 1 A n (ints p)) :
    Calls Try.prog 65 #[.slice A n c, .int .i64 b] w fun e w' => e = .returned (.tuple #[.int .i64 (atB p b), .int .i64 0]) ∧ Below w.heap.size w w' := by
  have hlen := hr.len
  obtain ⟨_, hn1, hn2⟩ := thOk_iff (okP_th hp)
  have hV := hid (beatCode_ok A n c p b w (by omega) b1 b2 hp hr)
  have hI := hid (fun (w1 : World) (q : Below w.heap.size w w1) => throwAt_any A n c p b w1 (by omega) (by omega) ((hr.below q (Nat.le_refl _)).more q.size))
  generalize atB p b = X at *
  clear hp hr hlen hn1 hn2
  go_enter Try.func65, Try.ntmps65
  go_wp2_with (first | (go_at_call 101; refine (hV.out).mono ?_; rintro e w1 ⟨rfl, hb1⟩; first | (have hk1 := bchain (by assumption) hb1; obtain ⟨hc1, hf1, hz1, hl1⟩ := bcell hk1) | (obtain ⟨hc1, hf1, hz1, hl1⟩ := bcell hb1)) | (go_at_call 116; refine (hI.out _ hb1).mono ?_; rintro e w2 ⟨rfl, rfl⟩))
  go_ret2
  exact ⟨rfl, (by repeat' (first | exact Below.refl _ _ | (with_reducible assumption) | (with_reducible refine Below.alloc ?_ ?_ _) | (with_reducible refine Below.setCell ?_ ?_ _) | (with_reducible refine Below.drew ?_) | (with_reducible refine below_drewN ?_ _) | (refine Below.trans ?_ (Below.mono (by assumption) ?_)) | (with_reducible exact Nat.le_refl _) | (with_reducible assumption) | (exact Below.size (by assumption)) | omega | go_size | (simp at *; omega)))⟩
theorem LandsFrom_ok (A : Option Addr) (n c : Nat) (p : List Int) (b : Int) (w : World) (b1 : -1000000 ≤ b) (b2 : b ≤ 1000000) (hp : okP p = true) (hr : Rd w w.heap.size 1 A n (ints p)) :
    Calls Try.prog 66 #[.slice A n c, .int .i64 b] w fun e w' => e = .returned (.tuple #[.int .i64 (lf p b), .int .i64 0]) ∧ Below w.heap.size w w' := by
  have hlen := hr.len
  obtain ⟨_, hn1, hn2⟩ := thOk_iff (okP_th hp)
  have hV := hid (beatCode_ok A n c p b w (by omega) b1 b2 hp hr)
  have hI := hid (fun (w1 : World) (q : Below w.heap.size w w1) => landsFrom_any A n c p b w1 (by omega) (by omega) hp ((hr.below q (Nat.le_refl _)).more q.size))
  generalize lf p b = X at *
  clear hp hr hlen hn1 hn2
  go_enter Try.func66, Try.ntmps66
  go_wp2_with (first | (go_at_call 101; refine (hV.out).mono ?_; rintro e w1 ⟨rfl, hb1⟩; first | (have hk1 := bchain (by assumption) hb1; obtain ⟨hc1, hf1, hz1, hl1⟩ := bcell hk1) | (obtain ⟨hc1, hf1, hz1, hl1⟩ := bcell hb1)) | (go_at_call 117; refine (hI.out _ hb1).mono ?_; rintro e w2 ⟨rfl, hb2⟩))
  go_ret2
  exact ⟨rfl, (by repeat' (first | exact Below.refl _ _ | (with_reducible assumption) | (with_reducible refine Below.alloc ?_ ?_ _) | (with_reducible refine Below.setCell ?_ ?_ _) | (with_reducible refine Below.drew ?_) | (with_reducible refine below_drewN ?_ _) | (refine Below.trans ?_ (Below.mono (by assumption) ?_)) | (with_reducible exact Nat.le_refl _) | (with_reducible assumption) | (exact Below.size (by assumption)) | omega | go_size | (simp at *; omega)))⟩
theorem l02Code_ok (A : Option Addr) (n c : Nat) (p : List Int) (b : Int) (w : World) (hn : n ≤ 1099511627776) (b1 : -1000000 ≤ b) (b2 : b ≤ 1000000) (hp : okP p = true) (hr : Rd w w.heap.size 1 A n (ints p)) :
    Calls Try.prog 109 #[.slice A n c, .int .i64 b] w fun e w' => e = .returned (.int .i64 0) ∧ Below w.heap.size w w' := by
  have hV := l02Ok_any A n c p w hn hr
  rw [hp] at hV
  have hV := hid hV
  have hB := fun w' => l00In_any b (-1000000) 1000000 w'
  have hb : betweenB b (-1000000) 1000000 = true := by rw [betweenB_iff]; omega
  rw [hb] at hB
  have hB := hid hB
  clear hp hr hb
  go_enter Try.func109, Try.ntmps109
  go_wp2_with (first | (go_at_call 75; refine (hV.out).mono ?_; rintro e w1 ⟨rfl, hb1⟩; first | (have hk1 := bchain (by assumption) hb1; obtain ⟨hc1, hf1, hz1, hl1⟩ := bcell hk1) | (obtain ⟨hc1, hf1, hz1, hl1⟩ := bcell hb1)) | (go_at_call 76; refine (hB.out _).mono ?_; rintro e w' ⟨rfl, rfl⟩))
  go_ret
  exact ⟨rfl, (by repeat' (first | exact Below.refl _ _ | (with_reducible assumption) | (with_reducible refine Below.alloc ?_ ?_ _) | (with_reducible refine Below.setCell ?_ ?_ _) | (with_reducible refine Below.drew ?_) | (with_reducible refine below_drewN ?_ _) | (refine Below.trans ?_ (Below.mono (by assumption) ?_)) | (with_reducible exact Nat.le_refl _) | (with_reducible assumption) | (exact Below.size (by assumption)) | omega | go_size | (simp at *; omega)))⟩
theorem specThrowAt_ok (A : Option Addr) (n c : Nat) (p : List Int) (b : Int) (w : World) (b1 : -1000000 ≤ b) (b2 : b ≤ 1000000) (hp : okP p = true) (hr : Rd w w.heap.size 1 A n (ints p)) :
    Calls Try.prog 52 #[.slice A n c, .int .i64 b] w fun e w' => e = .returned (.tuple #[.int .i64 (atB p b), .int .i64 0]) ∧ Below w.heap.size w w' := by
  have hlen := hr.len
  obtain ⟨_, hn1, hn2⟩ := thOk_iff (okP_th hp)
  have hV := hid (l02Code_ok A n c p b w (by omega) b1 b2 hp hr)
  have hI := hid (fun (w1 : World) (q : Below w.heap.size w w1) => l02At_any A n c p b w1 (by omega) (by omega) ((hr.below q (Nat.le_refl _)).more q.size))
  generalize atB p b = X at *
  clear hp hr hlen hn1 hn2
  go_enter Try.func52, Try.ntmps52
  go_wp2_with (first | (go_at_call 109; refine (hV.out).mono ?_; rintro e w1 ⟨rfl, hb1⟩; first | (have hk1 := bchain (by assumption) hb1; obtain ⟨hc1, hf1, hz1, hl1⟩ := bcell hk1) | (obtain ⟨hc1, hf1, hz1, hl1⟩ := bcell hb1)) | (go_at_call 110; refine (hI.out _ hb1).mono ?_; rintro e w2 ⟨rfl, rfl⟩))
  go_ret2
  exact ⟨rfl, (by repeat' (first | exact Below.refl _ _ | (with_reducible assumption) | (with_reducible refine Below.alloc ?_ ?_ _) | (with_reducible refine Below.setCell ?_ ?_ _) | (with_reducible refine Below.drew ?_) | (with_reducible refine below_drewN ?_ _) | (refine Below.trans ?_ (Below.mono (by assumption) ?_)) | (with_reducible exact Nat.le_refl _) | (with_reducible assumption) | (exact Below.size (by assumption)) | omega | go_size | (simp at *; omega)))⟩
theorem l03Rotate_ok (A : Option Addr) (n c : Nat) (p : List Int) (d : Int) (w : World) (b1 : -1000000 ≤ d) (b2 : d ≤ 1000000) (hp : okP p = true) (hr : Rd w w.heap.size 1 A n (ints p)) :
    Calls Try.prog 119 #[.slice A n c, .int .i64 d] w fun e w' => ∃ v, e = .returned v ∧ w'.ownsRow w.heap.size 2 1 v (rotP p d).length (ints (rotP p d)) ∧ Below w.heap.size w w' := by
  have hlen := hr.len
  obtain ⟨_, hn1, hn2⟩ := thOk_iff (okP_th hp)
  rw [hlen] at hn1 hn2
  have hst : Hid (([] : List Int) = (rotP p d).take 0) := by show _ = _; simp
  have hstep := hid (fun (k : Nat) (h : k < n) => show (rotP p d).take (k + 1) = (rotP p d).take k ++ [atB p ((k : Int) + d)] from mkL_step (by omega))
  have hRl : (rotP p d).length = n := by rw [rotP_len, hlen]
  have hT := hid (fun (w1 : World) (b : Below w.heap.size w w1) (x : Int) => l02At_any A n c p x w1 (by omega) hn1 ((hr.below b (Nat.le_refl _)).more b.size))
  generalize rotP p d = R at *
  clear hlen hp hr
  go_enter Try.func119, Try.ntmps119
  go_wp2
  go_loopw [5, 6] (fun v i wr => Hid (∃ k : Nat, k ≤ n ∧ i = .int .i64 k ∧ wr.ownsRow w.heap.size 2 1 v (R.take k).length (ints (R.take k)) ∧ Below w.heap.size w wr)) (fun _ i _ => n - (intOf i).toNat)
  case atStart => exact hid ⟨0, Nat.zero_le _, rfl, by rw [← hst.out]; exact World.ownsRow_lit _ _ 0 (Nat.le_refl _) (by simp [maxLen]) rfl, (by repeat' (first | exact Below.refl _ _ | (with_reducible assumption) | (with_reducible refine Below.alloc ?_ ?_ _) | (with_reducible refine Below.setCell ?_ ?_ _) | (with_reducible refine Below.drew ?_) | (with_reducible refine below_drewN ?_ _) | (refine Below.trans ?_ (Below.mono (by assumption) ?_)) | (with_reducible exact Nat.le_refl _) | (with_reducible assumption) | (exact Below.size (by assumption)) | omega | go_size | (simp at *; omega)))⟩
  case round =>
    obtain ⟨k, hk, rfl, ho, hb0⟩ := hrel.out
    have hkl : (R.take k).length ≤ 12 := by rw [List.length_take]; omega
    have hz := hb0.size
    by_cases hlt : k < n
    · have hs := hid (hstep.out k hlt)
      have hC := hid (hT.out wr hb0 ((k : Int) + d))
      generalize atB p ((k : Int) + d) = x at *
      go_wp2_with (first | (go_at_call 110; refine (hC.out).mono ?_; rintro e w' ⟨rfl, rfl⟩) | (at_builtin; refine push_int ho (x) _ Try.underlying22 inf_int rfl rfl _ _ rfl rfl rfl (by omega) (by omega) ?_; intro v1 w1 ho1 hb1 hg1))
      go_roundw
      case rel => exact hid ⟨k + 1, by omega, by go_num, by rw [hs.out]; exact ho1, (by repeat' (first | exact Below.refl _ _ | (with_reducible assumption) | (with_reducible refine Below.alloc ?_ ?_ _) | (with_reducible refine Below.setCell ?_ ?_ _) | (with_reducible refine Below.drew ?_) | (with_reducible refine below_drewN ?_ _) | (refine Below.trans ?_ (Below.mono (by assumption) ?_)) | (with_reducible exact Nat.le_refl _) | (with_reducible assumption) | (exact Below.size (by assumption)) | omega | go_size | (simp at *; omega)))⟩
      case measure => simp [intOf]; omega
    · have hkn : k = n := by omega
      subst hkn
      rw [List.take_of_length_le (by omega)] at ho
      go_wp2
      go_ret
      exact ⟨_, rfl, ho, hb0⟩
theorem specRotatePattern_ok (A : Option Addr) (n c : Nat) (p : List Int) (d : Int) (w : World) (b1 : -1000000 ≤ d) (b2 : d ≤ 1000000) (hp : okP p = true) (hr : Rd w w.heap.size 1 A n (ints p)) :
    Calls Try.prog 69 #[.slice A n c, .int .i64 d] w fun e w' => ∃ v, e = .returned (.tuple #[v, .int .i64 0]) ∧ w'.ownsRow w.heap.size 2 1 v (rotP p d).length (ints (rotP p d)) ∧ Below w.heap.size w w' := by
  have hn2 := (thOk_iff (okP_th hp)).2.2
  have hlen := hr.len
  have hC := hid (l02Code_ok A n c p d w (by omega) b1 b2 hp hr)
  have hR := hid (fun (w1 : World) (b : Below w.heap.size w w1) => l03Rotate_ok A n c p d w1 b1 b2 hp ((hr.below b (Nat.le_refl _)).more b.size))
  clear hp hr hn2 hlen
  go_enter Try.func69, Try.ntmps69
  go_wp2_with (first | (go_at_call 109; refine (hC.out).mono ?_; rintro e w1 ⟨rfl, hb1⟩; first | (have hk1 := bchain (by assumption) hb1; obtain ⟨hc1, hf1, hz1, hl1⟩ := bcell hk1) | (obtain ⟨hc1, hf1, hz1, hl1⟩ := bcell hb1)) | (go_at_call 119; refine (hR.out _ hb1).mono ?_; rintro e w2 ⟨v2, rfl, ho2, hb2⟩))
  go_ret2
  exact ⟨_, rfl, own_more ho2 hb1.size, (by repeat' (first | exact Below.refl _ _ | (with_reducible assumption) | (with_reducible refine Below.alloc ?_ ?_ _) | (with_reducible refine Below.setCell ?_ ?_ _) | (with_reducible refine Below.drew ?_) | (with_reducible refine below_drewN ?_ _) | (refine Below.trans ?_ (Below.mono (by assumption) ?_)) | (with_reducible exact Nat.le_refl _) | (with_reducible assumption) | (exact Below.size (by assumption)) | omega | go_size | (simp at *; omega)))⟩
end Go.Proofs.Yteaabniemlnjbaa
