/- Contracts of FirstRepeat and IsPrime, and the walks of their laws. -/
import Derived.Test.YtlbhfjbbkkkldaaFr
import Derived.Test.YtlbhfjbbkkkldaaIg
namespace Go.Proofs.Ytlbhfjbbkkkldaa
open Go.RowKit
set_option linter.unusedVariables false

/-- The code of a function of a pattern with low throws. -/
def loC (p : List Int) : Int := if okP p then (if 10 < hiT p then 6 else 0) else 1
theorem loC_iff (p : List Int) : loC p = 0 ↔ loB p = true := by
  rw [loB_iff]
  unfold loC
  by_cases h : okP p = true
  · rw [if_pos h]
    by_cases h2 : 10 < hiT p
    · rw [if_pos h2]; simp [h]; omega
    · rw [if_neg h2]; simp [h]; omega
  · rw [if_neg h]; simp [h]
def rFirstRepeat (p : List Int) : Int × Int × Int := if loB p then ((((repR p).1 : Nat) : Int), (((repR p).2 : Nat) : Int), 0) else (0, 0, loC p)
def rIsPrime (p : List Int) : Bool := loB p && decide ((repR p).2 = p.length)

theorem lowCode_any (A : Option Addr) (n c : Nat) (p : List Int) (w : World) (hn : n ≤ 1099511627776) (hr : Rd w w.heap.size 1 A n (ints p)) :
    Calls Try.prog 128 #[.slice A n c] w fun e w' => e = .returned (.int .i64 (loC p)) ∧ Below w.heap.size w w' := by
  have hV := ValidPattern_any A n c p w hn hr
  by_cases k : okP p = true
  · rw [k] at hV
    have hV := hid hV
    have hs : Hid (loC p = if 10 < hiT p then 6 else 0) := by show _ = _; rw [loC, if_pos k]
    have HH := hid (fun (w1 : World) (h : Rd w1 w1.heap.size 1 A n (ints p)) => highest_any A n c p w1 hn (fun x hx => (thOk_iff (okP_th k)).1 x hx) h)
    have HR := hid hr
    generalize hiT p = M at *
    clear k hr
    by_cases hM : 10 < M
    · rw [if_pos hM] at hs
      go_enter Try.func128, Try.ntmps128
      go_wp2_with (first | (go_at_call 97; refine (hV.out).mono ?_; rintro e w1 ⟨rfl, hb1⟩; first | (have hk1 := bchain (by assumption) hb1; obtain ⟨hc1, hf1, hz1, hl1⟩ := bcell hk1) | (obtain ⟨hc1, hf1, hz1, hl1⟩ := bcell hb1)) | (go_at_call 161; refine (HH.out _ ((HR.out.below hb1 (Nat.le_refl _)).more hb1.size)).mono ?_; rintro e w' ⟨rfl, rfl⟩))
      go_ret
      exact ⟨by rw [hs.out]; rfl, hb1⟩
    · rw [if_neg hM] at hs
      go_enter Try.func128, Try.ntmps128
      go_wp2_with (first | (go_at_call 97; refine (hV.out).mono ?_; rintro e w1 ⟨rfl, hb1⟩; first | (have hk1 := bchain (by assumption) hb1; obtain ⟨hc1, hf1, hz1, hl1⟩ := bcell hk1) | (obtain ⟨hc1, hf1, hz1, hl1⟩ := bcell hb1)) | (go_at_call 161; refine (HH.out _ ((HR.out.below hb1 (Nat.le_refl _)).more hb1.size)).mono ?_; rintro e w' ⟨rfl, rfl⟩))
      go_ret
      exact ⟨by rw [hs.out]; rfl, hb1⟩
  · have k : okP p = false := by simpa using k
    rw [k] at hV
    have hV := hid hV
    have hs : Hid (loC p = 1) := by show _ = _; simp [loC, k]
    clear k hr
    go_enter Try.func128, Try.ntmps128
    go_wp2_with (first | (go_at_call 97; refine (hV.out).mono ?_; rintro e w1 ⟨rfl, hb1⟩; first | (have hk1 := bchain (by assumption) hb1; obtain ⟨hc1, hf1, hz1, hl1⟩ := bcell hk1) | (obtain ⟨hc1, hf1, hz1, hl1⟩ := bcell hb1)))
    go_ret
    exact ⟨by rw [hs.out]; rfl, hb1⟩

theorem l11Code_any (A : Option Addr) (n c : Nat) (p : List Int) (w : World) (hn : n ≤ 1099511627776) (hr : Rd w w.heap.size 1 A n (ints p)) :
    Calls Try.prog 126 #[.slice A n c] w fun e w' => e = .returned (.int .i64 (loC p)) ∧ Below w.heap.size w w' := by
  have hV := l02Ok_any A n c p w hn hr
  by_cases k : okP p = true
  · rw [k] at hV
    have hV := hid hV
    have hs : Hid (loC p = if 10 < hiT p then 6 else 0) := by show _ = _; rw [loC, if_pos k]
    have HH := hid (fun (w1 : World) (h : Rd w1 w1.heap.size 1 A n (ints p)) => l02High_any A n c p w1 hn (fun x hx => (thOk_iff (okP_th k)).1 x hx) h)
    have HR := hid hr
    generalize hiT p = M at *
    clear k hr
    by_cases hM : 10 < M
    · rw [if_pos hM] at hs
      go_enter Try.func126, Try.ntmps126
      go_wp2_with (first | (go_at_call 99; refine (hV.out).mono ?_; rintro e w1 ⟨rfl, hb1⟩; first | (have hk1 := bchain (by assumption) hb1; obtain ⟨hc1, hf1, hz1, hl1⟩ := bcell hk1) | (obtain ⟨hc1, hf1, hz1, hl1⟩ := bcell hb1)) | (go_at_call 158; refine (HH.out _ ((HR.out.below hb1 (Nat.le_refl _)).more hb1.size)).mono ?_; rintro e w' ⟨rfl, rfl⟩))
      go_ret
      exact ⟨by rw [hs.out]; rfl, hb1⟩
    · rw [if_neg hM] at hs
      go_enter Try.func126, Try.ntmps126
      go_wp2_with (first | (go_at_call 99; refine (hV.out).mono ?_; rintro e w1 ⟨rfl, hb1⟩; first | (have hk1 := bchain (by assumption) hb1; obtain ⟨hc1, hf1, hz1, hl1⟩ := bcell hk1) | (obtain ⟨hc1, hf1, hz1, hl1⟩ := bcell hb1)) | (go_at_call 158; refine (HH.out _ ((HR.out.below hb1 (Nat.le_refl _)).more hb1.size)).mono ?_; rintro e w' ⟨rfl, rfl⟩))
      go_ret
      exact ⟨by rw [hs.out]; rfl, hb1⟩
  · have k : okP p = false := by simpa using k
    rw [k] at hV
    have hV := hid hV
    have hs : Hid (loC p = 1) := by show _ = _; simp [loC, k]
    clear k hr
    go_enter Try.func126, Try.ntmps126
    go_wp2_with (first | (go_at_call 99; refine (hV.out).mono ?_; rintro e w1 ⟨rfl, hb1⟩; first | (have hk1 := bchain (by assumption) hb1; obtain ⟨hc1, hf1, hz1, hl1⟩ := bcell hk1) | (obtain ⟨hc1, hf1, hz1, hl1⟩ := bcell hb1)))
    go_ret
    exact ⟨by rw [hs.out]; rfl, hb1⟩

theorem FirstRepeat_any (A : Option Addr) (n c : Nat) (p : List Int) (w : World) (hn : n ≤ 1099511627776) (hr : Rd w w.heap.size 1 A n (ints p)) :
    Calls Try.prog 68 #[.slice A n c] w fun e w' => e = .returned (.tuple #[.int .i64 (rFirstRepeat p).1, .int .i64 (rFirstRepeat p).2.1, .int .i64 (rFirstRepeat p).2.2]) ∧ Below w.heap.size w w' := by
  have hC := lowCode_any A n c p w hn hr
  have HR := hid hr
  by_cases k : loB p = true
  · rw [(loC_iff p).2 k] at hC
    have hC := hid hC
    have hs : Hid (rFirstRepeat p = ((((repR p).1 : Nat) : Int), (((repR p).2 : Nat) : Int), (0 : Int))) := by show _ = _; simp [rFirstRepeat, k]
    have HO := hid (fun (w1 : World) (r : Rd w1 w1.heap.size 1 A n (ints p)) => firstRepeat_any A n c p w1 (loB_iff.1 k).1 r)
    generalize repR p = R at *
    obtain ⟨Ri, Rk⟩ := R
    clear k hr
    go_enter Try.func68, Try.ntmps68
    go_wp2_with (first | (go_at_call 128; refine (hC.out).mono ?_; rintro e w1 ⟨rfl, hb1⟩; first | (have hk1 := bchain (by assumption) hb1; obtain ⟨hc1, hf1, hz1, hl1⟩ := bcell hk1) | (obtain ⟨hc1, hf1, hz1, hl1⟩ := bcell hb1)) | (go_at_call 129; refine (HO.out _ ((HR.out.below hb1 (Nat.le_refl _)).more hb1.size)).mono ?_; rintro e w2 ⟨rfl, hb2⟩))
    go_ret3
    exact ⟨by rw [hs.out]; rfl, (by repeat' (first | exact Below.refl _ _ | (with_reducible assumption) | (with_reducible refine Below.alloc ?_ ?_ _) | (with_reducible refine Below.setCell ?_ ?_ _) | (with_reducible refine Below.drew ?_) | (with_reducible refine below_drewN ?_ _) | (refine Below.trans ?_ (Below.mono (by assumption) ?_)) | (with_reducible exact Nat.le_refl _) | (with_reducible assumption) | (exact Below.size (by assumption)) | omega | go_size | (simp at *; omega)))⟩
  · have hs : Hid (rFirstRepeat p = (0, 0, loC p)) := by show _ = _; simp [rFirstRepeat, k]
    have hq : (loC p != 0) = true := by have : loC p ≠ 0 := fun e => k ((loC_iff p).1 e); simpa using this
    have hC := hid hC
    generalize loC p = C at *
    clear k hr
    go_enter Try.func68, Try.ntmps68
    go_wp2_with (first | (go_at_call 128; refine (hC.out).mono ?_; rintro e w1 ⟨rfl, hb1⟩; first | (have hk1 := bchain (by assumption) hb1; obtain ⟨hc1, hf1, hz1, hl1⟩ := bcell hk1) | (obtain ⟨hc1, hf1, hz1, hl1⟩ := bcell hb1)))
    go_ret3
    exact ⟨by rw [hs.out]; rfl, (by repeat' (first | exact Below.refl _ _ | (with_reducible assumption) | (with_reducible refine Below.alloc ?_ ?_ _) | (with_reducible refine Below.setCell ?_ ?_ _) | (with_reducible refine Below.drew ?_) | (with_reducible refine below_drewN ?_ _) | (refine Below.trans ?_ (Below.mono (by assumption) ?_)) | (with_reducible exact Nat.le_refl _) | (with_reducible assumption) | (exact Below.size (by assumption)) | omega | go_size | (simp at *; omega)))⟩


theorem IsPrime_any (A : Option Addr) (n c : Nat) (p : List Int) (w : World) (hn : n ≤ 1099511627776) (hr : Rd w w.heap.size 1 A n (ints p)) :
    Calls Try.prog 69 #[.slice A n c] w fun e w' => e = .returned (.bool (rIsPrime p)) ∧ Below w.heap.size w w' := by
  have hV := isLow_any A n c p w hn hr
  have HR := hid hr
  have hlen := hr.len
  by_cases k : loB p = true
  · rw [k] at hV
    have hV := hid hV
    have hs : Hid (rIsPrime p = decide ((repR p).2 = n)) := by show _ = _; simp [rIsPrime, k, hlen]
    have HO := hid (fun (w1 : World) (r : Rd w1 w1.heap.size 1 A n (ints p)) => firstRepeat_any A n c p w1 (loB_iff.1 k).1 r)
    generalize repR p = R at *
    obtain ⟨Ri, Rk⟩ := R
    clear k hr hlen
    have hq : ((Rk : Int) == (n : Int)) = decide (Rk = n) := by
      by_cases e : Rk = n
      · simp [e]
      · have : ¬ (Rk : Int) = (n : Int) := by omega
        rw [decide_eq_false e]; simp only [beq_eq_false_iff_ne, ne_eq]; exact this
    go_enter Try.func69, Try.ntmps69
    go_wp2_with (first | (go_at_call 131; refine (hV.out).mono ?_; rintro e w1 ⟨rfl, hb1⟩; first | (have hk1 := bchain (by assumption) hb1; obtain ⟨hc1, hf1, hz1, hl1⟩ := bcell hk1) | (obtain ⟨hc1, hf1, hz1, hl1⟩ := bcell hb1)) | (go_at_call 129; refine (HO.out _ ((HR.out.below hb1 (Nat.le_refl _)).more hb1.size)).mono ?_; rintro e w2 ⟨rfl, hb2⟩))
    go_ret
    exact ⟨ret_bool (by rw [hs.out]), (by repeat' (first | exact Below.refl _ _ | (with_reducible assumption) | (with_reducible refine Below.alloc ?_ ?_ _) | (with_reducible refine Below.setCell ?_ ?_ _) | (with_reducible refine Below.drew ?_) | (with_reducible refine below_drewN ?_ _) | (refine Below.trans ?_ (Below.mono (by assumption) ?_)) | (with_reducible exact Nat.le_refl _) | (with_reducible assumption) | (exact Below.size (by assumption)) | omega | go_size | (simp at *; omega)))⟩
  · have k : loB p = false := by simpa using k
    rw [k] at hV
    have hV := hid hV
    have hs : Hid (rIsPrime p = false) := by show _ = _; simp [rIsPrime, k]
    clear k hr
    go_enter Try.func69, Try.ntmps69
    go_wp2_with (first | (go_at_call 131; refine (hV.out).mono ?_; rintro e w1 ⟨rfl, hb1⟩; first | (have hk1 := bchain (by assumption) hb1; obtain ⟨hc1, hf1, hz1, hl1⟩ := bcell hk1) | (obtain ⟨hc1, hf1, hz1, hl1⟩ := bcell hb1)))
    go_ret
    exact ⟨ret_bool hs.out.symm, hb1⟩
theorem l11Prime_any (A : Option Addr) (n c : Nat) (p : List Int) (w : World) (hp : okP p = true) (hr : Rd w w.heap.size 1 A n (ints p)) :
    Calls Try.prog 132 #[.slice A n c] w fun e w' => e = .returned (.bool (decide ((repR p).2 = n))) ∧ Below w.heap.size w w' := by
  have hn12 : n ≤ 12 := by have := hr.len; have := thOk_iff (okP_th hp); omega
  have HO := hid (l11Repeat_any A n c p w hp hr)
  generalize repR p = R at *
  obtain ⟨Ri, Rk⟩ := R
  clear hp hr
  have hq : ((Rk : Int) == (n : Int)) = decide (Rk = n) := by
    by_cases e : Rk = n
    · simp [e]
    · have : ¬ (Rk : Int) = (n : Int) := by omega
      rw [decide_eq_false e]; simp only [beq_eq_false_iff_ne, ne_eq]; exact this
  go_enter Try.func132, Try.ntmps132
  go_wp2_with (first | (go_at_call 163; refine HO.out.mono ?_; rintro e w2 ⟨rfl, hb2⟩))
  go_ret
  exact ⟨ret_bool (by simp), (by repeat' (first | exact Below.refl _ _ | (with_reducible assumption) | (with_reducible refine Below.alloc ?_ ?_ _) | (with_reducible refine Below.setCell ?_ ?_ _) | (with_reducible refine Below.drew ?_) | (with_reducible refine below_drewN ?_ _) | (refine Below.trans ?_ (Below.mono (by assumption) ?_)) | (with_reducible exact Nat.le_refl _) | (with_reducible assumption) | (exact Below.size (by assumption)) | omega | go_size | (simp at *; omega)))⟩
theorem specIsPrime_any (A : Option Addr) (n c : Nat) (p : List Int) (w : World) (hn : n ≤ 1099511627776) (hr : Rd w w.heap.size 1 A n (ints p)) :
    Calls Try.prog 70 #[.slice A n c] w fun e w' => e = .returned (.bool (rIsPrime p)) ∧ Below w.heap.size w w' := by
  have hC := l11Code_any A n c p w hn hr
  have HR := hid hr
  have hlen := hr.len
  by_cases k : loB p = true
  · rw [(loC_iff p).2 k] at hC
    have hC := hid hC
    have hs : Hid (rIsPrime p = decide ((repR p).2 = n)) := by show _ = _; simp [rIsPrime, k, hlen]
    have HO := hid (fun (w1 : World) (r : Rd w1 w1.heap.size 1 A n (ints p)) => l11Prime_any A n c p w1 (loB_iff.1 k).1 r)
    generalize decide ((repR p).2 = n) = D at *
    clear k hr hlen
    go_enter Try.func70, Try.ntmps70
    go_wp2_with (first | (go_at_call 126; refine (hC.out).mono ?_; rintro e w1 ⟨rfl, hb1⟩; first | (have hk1 := bchain (by assumption) hb1; obtain ⟨hc1, hf1, hz1, hl1⟩ := bcell hk1) | (obtain ⟨hc1, hf1, hz1, hl1⟩ := bcell hb1)) | (go_at_call 132; refine (HO.out _ ((HR.out.below hb1 (Nat.le_refl _)).more hb1.size)).mono ?_; rintro e w2 ⟨rfl, hb2⟩))
    go_ret
    exact ⟨ret_bool hs.out.symm, (by repeat' (first | exact Below.refl _ _ | (with_reducible assumption) | (with_reducible refine Below.alloc ?_ ?_ _) | (with_reducible refine Below.setCell ?_ ?_ _) | (with_reducible refine Below.drew ?_) | (with_reducible refine below_drewN ?_ _) | (refine Below.trans ?_ (Below.mono (by assumption) ?_)) | (with_reducible exact Nat.le_refl _) | (with_reducible assumption) | (exact Below.size (by assumption)) | omega | go_size | (simp at *; omega)))⟩
  · have hq : (loC p == 0) = false := by have : loC p ≠ 0 := fun e => k ((loC_iff p).1 e); simpa using this
    have k : loB p = false := by simpa using k
    have hs : Hid (rIsPrime p = false) := by show _ = _; simp [rIsPrime, k]
    have hC := hid hC
    generalize loC p = C at *
    clear k hr
    go_enter Try.func70, Try.ntmps70
    go_wp2_with (first | (go_at_call 126; refine (hC.out).mono ?_; rintro e w1 ⟨rfl, hb1⟩; first | (have hk1 := bchain (by assumption) hb1; obtain ⟨hc1, hf1, hz1, hl1⟩ := bcell hk1) | (obtain ⟨hc1, hf1, hz1, hl1⟩ := bcell hb1)))
    go_ret
    exact ⟨ret_bool hs.out.symm, hb1⟩





end Go.Proofs.Ytlbhfjbbkkkldaa
