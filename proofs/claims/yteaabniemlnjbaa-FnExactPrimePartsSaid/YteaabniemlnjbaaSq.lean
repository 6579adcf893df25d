/- Contracts of StateOf, IsGround and CanFollow, and the walks of their laws. -/
import Derived.Test.YteaabniemlnjbaaSo
import Derived.Test.YteaabniemlnjbaaB
namespace Go.Proofs.Yteaabniemlnjbaa
open Go.RowKit
set_option linter.unusedVariables false

/-- The code of a function of a pattern, a beat and a height. -/
def stC (p : List Int) (b h : Int) : Int := if okP p then (if betweenB b (-1000) 1000 && betweenB h 1 10 then (if h < hiT p then 6 else 0) else 2) else 1
theorem stC_ok {p : List Int} {b h : Int} (k : stC p b h = 0) : okP p = true ∧ -1000 ≤ b ∧ b ≤ 1000 ∧ 1 ≤ h ∧ h ≤ 10 ∧ hiT p ≤ h := by
  unfold stC at k
  split at k
  · rename_i h1
    split at k
    · rename_i h2
      simp only [Bool.and_eq_true, betweenB_iff] at h2
      split at k
      · omega
      · exact ⟨h1, h2.1.1, h2.1.2, h2.2.1, h2.2.2, by omega⟩
    · omega
  · omega
def rStateOf (p : List Int) (b h : Int) : (Int × Int) × Int := if stC p b h = 0 then ((h, ((stM p b h.toNat : Nat) : Int)), 0) else ((0, 0), stC p b h)
theorem stateCode_any (A : Option Addr) (n c : Nat) (p : List Int) (b h : Int) (w : World) (hn : n ≤ 1099511627776) (hr : Rd w w.heap.size 1 A n (ints p)) :
    Calls Try.prog 92 #[.slice A n c, .int .i64 b, .int .i64 h] w fun e w' => e = .returned (.int .i64 (stC p b h)) ∧ Below w.heap.size w w' := by
  have hV := ValidPattern_any A n c p w hn hr
  by_cases k : okP p = true
  · rw [k] at hV
    have hV := hid hV
    have hth := hid (fun x hx => (thOk_iff (okP_th k)).1 x hx)
    have HH := hid (fun (w1 : World) (h : Rd w1 w1.heap.size 1 A n (ints p)) => highest_any A n c p w1 hn (hth.out) h)
    have HR := hid hr
    by_cases k2 : betweenB b (-1000) 1000 = true
    · by_cases k3 : betweenB h 1 10 = true
      · have hs : Hid (stC p b h = if h < hiT p then 6 else 0) := by show _ = _; simp [stC, k, k2, k3]
        obtain ⟨x0, x1⟩ := hiT_bd (okP_th k)
        obtain ⟨h0, h1⟩ := (betweenB_iff _ _ _).1 k3
        generalize hiT p = M at *
        clear k hr
        by_cases hM : h < M
        · rw [if_pos hM] at hs
          go_enter Try.func92, Try.ntmps92
          go_wp2_with (first | (go_at_call 64; refine (hV.out).mono ?_; rintro e w1 ⟨rfl, hb1⟩; first | (have hk1 := bchain (by assumption) hb1; obtain ⟨hc1, hf1, hz1, hl1⟩ := bcell hk1) | (obtain ⟨hc1, hf1, hz1, hl1⟩ := bcell hb1)) | (go_at_call 79; refine (between_any _ _ _ _).mono ?_; rintro e w' ⟨rfl, rfl⟩) | (go_at_call 131; refine (isHeight_any _ _).mono ?_; rintro e w' ⟨rfl, rfl⟩) | (go_at_call 108; refine (HH.out _ ((HR.out.below hb1 (Nat.le_refl _)).more hb1.size)).mono ?_; rintro e w' ⟨rfl, rfl⟩))
          go_ret
          exact ⟨by rw [hs.out]; rfl, hb1⟩
        · rw [if_neg hM] at hs
          go_enter Try.func92, Try.ntmps92
          go_wp2_with (first | (go_at_call 64; refine (hV.out).mono ?_; rintro e w1 ⟨rfl, hb1⟩; first | (have hk1 := bchain (by assumption) hb1; obtain ⟨hc1, hf1, hz1, hl1⟩ := bcell hk1) | (obtain ⟨hc1, hf1, hz1, hl1⟩ := bcell hb1)) | (go_at_call 79; refine (between_any _ _ _ _).mono ?_; rintro e w' ⟨rfl, rfl⟩) | (go_at_call 131; refine (isHeight_any _ _).mono ?_; rintro e w' ⟨rfl, rfl⟩) | (go_at_call 108; refine (HH.out _ ((HR.out.below hb1 (Nat.le_refl _)).more hb1.size)).mono ?_; rintro e w' ⟨rfl, rfl⟩))
          go_ret
          exact ⟨by rw [hs.out]; rfl, hb1⟩
      · have k3 : betweenB h 1 10 = false := by simpa using k3
        have hs : Hid (stC p b h = 2) := by show _ = _; simp [stC, k, k2, k3]
        clear k hr
        go_enter Try.func92, Try.ntmps92
        go_wp2_with (first | (go_at_call 64; refine (hV.out).mono ?_; rintro e w1 ⟨rfl, hb1⟩; first | (have hk1 := bchain (by assumption) hb1; obtain ⟨hc1, hf1, hz1, hl1⟩ := bcell hk1) | (obtain ⟨hc1, hf1, hz1, hl1⟩ := bcell hb1)) | (go_at_call 79; refine (between_any _ _ _ _).mono ?_; rintro e w' ⟨rfl, rfl⟩) | (go_at_call 131; refine (isHeight_any _ _).mono ?_; rintro e w' ⟨rfl, rfl⟩))
        go_ret
        exact ⟨by rw [hs.out]; rfl, hb1⟩
    · have k2 : betweenB b (-1000) 1000 = false := by simpa using k2
      have hs : Hid (stC p b h = 2) := by show _ = _; simp [stC, k, k2]
      clear k hr
      go_enter Try.func92, Try.ntmps92
      go_wp2_with (first | (go_at_call 64; refine (hV.out).mono ?_; rintro e w1 ⟨rfl, hb1⟩; first | (have hk1 := bchain (by assumption) hb1; obtain ⟨hc1, hf1, hz1, hl1⟩ := bcell hk1) | (obtain ⟨hc1, hf1, hz1, hl1⟩ := bcell hb1)) | (go_at_call 79; refine (between_any _ _ _ _).mono ?_; rintro e w' ⟨rfl, rfl⟩))
      go_ret
      exact ⟨by rw [hs.out]; rfl, hb1⟩
  · have k : okP p = false := by simpa using k
    rw [k] at hV
    have hV := hid hV
    have hs : Hid (stC p b h = 1) := by show _ = _; simp [stC, k]
    clear k hr
    go_enter Try.func92, Try.ntmps92
    go_wp2_with (first | (go_at_call 64; refine (hV.out).mono ?_; rintro e w1 ⟨rfl, hb1⟩; first | (have hk1 := bchain (by assumption) hb1; obtain ⟨hc1, hf1, hz1, hl1⟩ := bcell hk1) | (obtain ⟨hc1, hf1, hz1, hl1⟩ := bcell hb1)))
    go_ret
    exact ⟨by rw [hs.out]; rfl, hb1⟩
theorem l08Code_any (A : Option Addr) (n c : Nat) (p : List Int) (b h : Int) (w : World) (hn : n ≤ 1099511627776) (hr : Rd w w.heap.size 1 A n (ints p)) :
    Calls Try.prog 91 #[.slice A n c, .int .i64 b, .int .i64 h] w fun e w' => e = .returned (.int .i64 (stC p b h)) ∧ Below w.heap.size w w' := by
  have hV := l02Ok_any A n c p w hn hr
  by_cases k : okP p = true
  · rw [k] at hV
    have hV := hid hV
    have hth := hid (fun x hx => (thOk_iff (okP_th k)).1 x hx)
    have HH := hid (fun (w1 : World) (h : Rd w1 w1.heap.size 1 A n (ints p)) => l02High_any A n c p w1 hn (hth.out) h)
    have HR := hid hr
    by_cases k2 : betweenB b (-1000) 1000 = true
    · by_cases k3 : betweenB h 1 10 = true
      · have hs : Hid (stC p b h = if h < hiT p then 6 else 0) := by show _ = _; simp [stC, k, k2, k3]
        obtain ⟨x0, x1⟩ := hiT_bd (okP_th k)
        obtain ⟨h0, h1⟩ := (betweenB_iff _ _ _).1 k3
        generalize hiT p = M at *
        clear k hr
        by_cases hM : h < M
        · rw [if_pos hM] at hs
          go_enter Try.func91, Try.ntmps91
          go_wp2_with (first | (go_at_call 75; refine (hV.out).mono ?_; rintro e w1 ⟨rfl, hb1⟩; first | (have hk1 := bchain (by assumption) hb1; obtain ⟨hc1, hf1, hz1, hl1⟩ := bcell hk1) | (obtain ⟨hc1, hf1, hz1, hl1⟩ := bcell hb1)) | (go_at_call 76; refine (l00In_any _ _ _ _).mono ?_; rintro e w' ⟨rfl, rfl⟩) | (go_at_call 130; refine (l08Height_any _ _).mono ?_; rintro e w' ⟨rfl, rfl⟩) | (go_at_call 106; refine (HH.out _ ((HR.out.below hb1 (Nat.le_refl _)).more hb1.size)).mono ?_; rintro e w' ⟨rfl, rfl⟩))
          go_ret
          exact ⟨by rw [hs.out]; rfl, hb1⟩
        · rw [if_neg hM] at hs
          go_enter Try.func91, Try.ntmps91
          go_wp2_with (first | (go_at_call 75; refine (hV.out).mono ?_; rintro e w1 ⟨rfl, hb1⟩; first | (have hk1 := bchain (by assumption) hb1; obtain ⟨hc1, hf1, hz1, hl1⟩ := bcell hk1) | (obtain ⟨hc1, hf1, hz1, hl1⟩ := bcell hb1)) | (go_at_call 76; refine (l00In_any _ _ _ _).mono ?_; rintro e w' ⟨rfl, rfl⟩) | (go_at_call 130; refine (l08Height_any _ _).mono ?_; rintro e w' ⟨rfl, rfl⟩) | (go_at_call 106; refine (HH.out _ ((HR.out.below hb1 (Nat.le_refl _)).more hb1.size)).mono ?_; rintro e w' ⟨rfl, rfl⟩))
          go_ret
          exact ⟨by rw [hs.out]; rfl, hb1⟩
      · have k3 : betweenB h 1 10 = false := by simpa using k3
        have hs : Hid (stC p b h = 2) := by show _ = _; simp [stC, k, k2, k3]
        clear k hr
        go_enter Try.func91, Try.ntmps91
        go_wp2_with (first | (go_at_call 75; refine (hV.out).mono ?_; rintro e w1 ⟨rfl, hb1⟩; first | (have hk1 := bchain (by assumption) hb1; obtain ⟨hc1, hf1, hz1, hl1⟩ := bcell hk1) | (obtain ⟨hc1, hf1, hz1, hl1⟩ := bcell hb1)) | (go_at_call 76; refine (l00In_any _ _ _ _).mono ?_; rintro e w' ⟨rfl, rfl⟩) | (go_at_call 130; refine (l08Height_any _ _).mono ?_; rintro e w' ⟨rfl, rfl⟩))
        go_ret
        exact ⟨by rw [hs.out]; rfl, hb1⟩
    · have k2 : betweenB b (-1000) 1000 = false := by simpa using k2
      have hs : Hid (stC p b h = 2) := by show _ = _; simp [stC, k, k2]
      clear k hr
      go_enter Try.func91, Try.ntmps91
      go_wp2_with (first | (go_at_call 75; refine (hV.out).mono ?_; rintro e w1 ⟨rfl, hb1⟩; first | (have hk1 := bchain (by assumption) hb1; obtain ⟨hc1, hf1, hz1, hl1⟩ := bcell hk1) | (obtain ⟨hc1, hf1, hz1, hl1⟩ := bcell hb1)) | (go_at_call 76; refine (l00In_any _ _ _ _).mono ?_; rintro e w' ⟨rfl, rfl⟩))
      go_ret
      exact ⟨by rw [hs.out]; rfl, hb1⟩
  · have k : okP p = false := by simpa using k
    rw [k] at hV
    have hV := hid hV
    have hs : Hid (stC p b h = 1) := by show _ = _; simp [stC, k]
    clear k hr
    go_enter Try.func91, Try.ntmps91
    go_wp2_with (first | (go_at_call 75; refine (hV.out).mono ?_; rintro e w1 ⟨rfl, hb1⟩; first | (have hk1 := bchain (by assumption) hb1; obtain ⟨hc1, hf1, hz1, hl1⟩ := bcell hk1) | (obtain ⟨hc1, hf1, hz1, hl1⟩ := bcell hb1)))
    go_ret
    exact ⟨by rw [hs.out]; rfl, hb1⟩



end Go.Proofs.Yteaabniemlnjbaa
