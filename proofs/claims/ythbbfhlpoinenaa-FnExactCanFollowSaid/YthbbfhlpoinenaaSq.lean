/- Contracts of StateOf, IsGround and CanFollow, and the walks of their laws. -/
import Derived.Test.YthbbfhlpoinenaaSo
import Derived.Test.YthbbfhlpoinenaaB
namespace Go.Proofs.Ythbbfhlpoinenaa
open Go.RowKit
set_option linter.unusedVariables false

/-- The code of a function of a pattern, a beat and a height. -/
def stC (p : List Int) (b h : Int) : Int := if okP p then (if betweenB b (-1000) 1000 && betweenB h 1 10 then (if h < hiT p then 6 else 0) else 2) else 1
theorem stC_ok {p : List Int} {b h : Int} (k : stC p b h = 0) : okP p = true ∧ -1000 ≤ b ∧ b ≤ 1000 ∧ 1 ≤ h ∧ h ≤ 10 ∧ hiT p ≤ h := by
  unfold stC at k
  split at k
  · rename_i h1
    split at k
    · rename_i h2
      simp only [Bool.and_eq_true, betweenB_iff] at h2
      split at k
      · omega
      · exact ⟨h1, h2.1.1, h2.1.2, h2.2.1, h2.2.2, by omega⟩
    · omega
  · omega
def rStateOf (p : List Int) (b h : Int) : (Int × Int) × Int := if stC p b h = 0 then ((h, ((stM p b h.toNat : Nat) : Int)), 0) else ((0, 0), stC p b h)
theorem stateCode_any (A : Option Addr) (n c : Nat) (p : List Int) (b h : Int) (w : World) (hn : n ≤ 1099511627776) (hr : Rd w w.heap.size 1 A n (ints p)) :
    Calls Try.prog 84 #[.slice A n c, .int .i64 b, .int .i64 h] w fun e w' => e = .returned (.int .i64 (stC p b h)) ∧ Below w.heap.size w w' := by
  have hV := ValidPattern_any A n c p w hn hr
  by_cases k : okP p = true
  · rw [k] at hV
    have hV := hid hV
    have hth := hid (fun x hx => (thOk_iff (okP_th k)).1 x hx)
    have HH := hid (fun (w1 : World) (h : Rd w1 w1.heap.size 1 A n (ints p)) => highest_any A n c p w1 hn (hth.out) h)
    have HR := hid hr
    by_cases k2 : betweenB b (-1000) 1000 = true
    · by_cases k3 : betweenB h 1 10 = true
      · have hs : Hid (stC p b h = if h < hiT p then 6 else 0) := by show _ = _; simp [stC, k, k2, k3]
        obtain ⟨x0, x1⟩ := hiT_bd (okP_th k)
        obtain ⟨h0, h1⟩ := (betweenB_iff _ _ _).1 k3
        generalize hiT p = M at *
        clear k hr
        by_cases hM : h < M
        · rw [if_pos hM] at hs
          go_enter Try.func84, Try.ntmps84
          go_wp2_with (first | (go_at_call 65; refine (hV.out).mono ?_; rintro e w1 ⟨rfl, hb1⟩; first | (have hk1 := bchain (by assumption) hb1; obtain ⟨hc1, hf1, hz1, hl1⟩ := bcell hk1) | (obtain ⟨hc1, hf1, hz1, hl1⟩ := bcell hb1)) | (go_at_call 61; refine (between_any _ _ _ _).mono ?_; rintro e w' ⟨rfl, rfl⟩) | (go_at_call 86; refine (isHeight_any _ _).mono ?_; rintro e w' ⟨rfl, rfl⟩) | (go_at_call 96; refine (HH.out _ ((HR.out.below hb1 (Nat.le_refl _)).more hb1.size)).mono ?_; rintro e w' ⟨rfl, rfl⟩))
          go_ret
          exact ⟨by rw [hs.out]; rfl, hb1⟩
        · rw [if_neg hM] at hs
          go_enter Try.func84, Try.ntmps84
          go_wp2_with (first | (go_at_call 65; refine (hV.out).mono ?_; rintro e w1 ⟨rfl, hb1⟩; first | (have hk1 := bchain (by assumption) hb1; obtain ⟨hc1, hf1, hz1, hl1⟩ := bcell hk1) | (obtain ⟨hc1, hf1, hz1, hl1⟩ := bcell hb1)) | (go_at_call 61; refine (between_any _ _ _ _).mono ?_; rintro e w' ⟨rfl, rfl⟩) | (go_at_call 86; refine (isHeight_any _ _).mono ?_; rintro e w' ⟨rfl, rfl⟩) | (go_at_call 96; refine (HH.out _ ((HR.out.below hb1 (Nat.le_refl _)).more hb1.size)).mono ?_; rintro e w' ⟨rfl, rfl⟩))
          go_ret
          exact ⟨by rw [hs.out]; rfl, hb1⟩
      · have k3 : betweenB h 1 10 = false := by simpa using k3
        have hs : Hid (stC p b h = 2) := by show _ = _; simp [stC, k, k2, k3]
        clear k hr
        go_enter Try.func84, Try.ntmps84
        go_wp2_with (first | (go_at_call 65; refine (hV.out).mono ?_; rintro e w1 ⟨rfl, hb1⟩; first | (have hk1 := bchain (by assumption) hb1; obtain ⟨hc1, hf1, hz1, hl1⟩ := bcell hk1) | (obtain ⟨hc1, hf1, hz1, hl1⟩ := bcell hb1)) | (go_at_call 61; refine (between_any _ _ _ _).mono ?_; rintro e w' ⟨rfl, rfl⟩) | (go_at_call 86; refine (isHeight_any _ _).mono ?_; rintro e w' ⟨rfl, rfl⟩))
        go_ret
        exact ⟨by rw [hs.out]; rfl, hb1⟩
    · have k2 : betweenB b (-1000) 1000 = false := by simpa using k2
      have hs : Hid (stC p b h = 2) := by show _ = _; simp [stC, k, k2]
      clear k hr
      go_enter Try.func84, Try.ntmps84
      go_wp2_with (first | (go_at_call 65; refine (hV.out).mono ?_; rintro e w1 ⟨rfl, hb1⟩; first | (have hk1 := bchain (by assumption) hb1; obtain ⟨hc1, hf1, hz1, hl1⟩ := bcell hk1) | (obtain ⟨hc1, hf1, hz1, hl1⟩ := bcell hb1)) | (go_at_call 61; refine (between_any _ _ _ _).mono ?_; rintro e w' ⟨rfl, rfl⟩))
      go_ret
      exact ⟨by rw [hs.out]; rfl, hb1⟩
  · have k : okP p = false := by simpa using k
    rw [k] at hV
    have hV := hid hV
    have hs : Hid (stC p b h = 1) := by show _ = _; simp [stC, k]
    clear k hr
    go_enter Try.func84, Try.ntmps84
    go_wp2_with (first | (go_at_call 65; refine (hV.out).mono ?_; rintro e w1 ⟨rfl, hb1⟩; first | (have hk1 := bchain (by assumption) hb1; obtain ⟨hc1, hf1, hz1, hl1⟩ := bcell hk1) | (obtain ⟨hc1, hf1, hz1, hl1⟩ := bcell hb1)))
    go_ret
    exact ⟨by rw [hs.out]; rfl, hb1⟩
theorem l08Code_any (A : Option Addr) (n c : Nat) (p : List Int) (b h : Int) (w : World) (hn : n ≤ 1099511627776) (hr : Rd w w.heap.size 1 A n (ints p)) :
    Calls Try.prog 69 #[.slice A n c, .int .i64 b, .int .i64 h] w fun e w' => e = .returned (.int .i64 (stC p b h)) ∧ Below w.heap.size w w' := by
  have hV := l02Ok_any A n c p w hn hr
  by_cases k : okP p = true
  · rw [k] at hV
    have hV := hid hV
    have hth := hid (fun x hx => (thOk_iff (okP_th k)).1 x hx)
    have HH := hid (fun (w1 : World) (h : Rd w1 w1.heap.size 1 A n (ints p)) => l02High_any A n c p w1 hn (hth.out) h)
    have HR := hid hr
    by_cases k2 : betweenB b (-1000) 1000 = true
    · by_cases k3 : betweenB h 1 10 = true
      · have hs : Hid (stC p b h = if h < hiT p then 6 else 0) := by show _ = _; simp [stC, k, k2, k3]
        obtain ⟨x0, x1⟩ := hiT_bd (okP_th k)
        obtain ⟨h0, h1⟩ := (betweenB_iff _ _ _).1 k3
        generalize hiT p = M at *
        clear k hr
        by_cases hM : h < M
        · rw [if_pos hM] at hs
          go_enter Try.func69, Try.ntmps69
          go_wp2_with (first | (go_at_call 62; refine (hV.out).mono ?_; rintro e w1 ⟨rfl, hb1⟩; first | (have hk1 := bchain (by assumption) hb1; obtain ⟨hc1, hf1, hz1, hl1⟩ := bcell hk1) | (obtain ⟨hc1, hf1, hz1, hl1⟩ := bcell hb1)) | (go_at_call 63; refine (l00In_any _ _ _ _).mono ?_; rintro e w' ⟨rfl, rfl⟩) | (go_at_call 85; refine (l08Height_any _ _).mono ?_; rintro e w' ⟨rfl, rfl⟩) | (go_at_call 93; refine (HH.out _ ((HR.out.below hb1 (Nat.le_refl _)).more hb1.size)).mono ?_; rintro e w' ⟨rfl, rfl⟩))
          go_ret
          exact ⟨by rw [hs.out]; rfl, hb1⟩
        · rw [if_neg hM] at hs
          go_enter Try.func69, Try.ntmps69
          go_wp2_with (first | (go_at_call 62; refine (hV.out).mono ?_; rintro e w1 ⟨rfl, hb1⟩; first | (have hk1 := bchain (by assumption) hb1; obtain ⟨hc1, hf1, hz1, hl1⟩ := bcell hk1) | (obtain ⟨hc1, hf1, hz1, hl1⟩ := bcell hb1)) | (go_at_call 63; refine (l00In_any _ _ _ _).mono ?_; rintro e w' ⟨rfl, rfl⟩) | (go_at_call 85; refine (l08Height_any _ _).mono ?_; rintro e w' ⟨rfl, rfl⟩) | (go_at_call 93; refine (HH.out _ ((HR.out.below hb1 (Nat.le_refl _)).more hb1.size)).mono ?_; rintro e w' ⟨rfl, rfl⟩))
          go_ret
          exact ⟨by rw [hs.out]; rfl, hb1⟩
      · have k3 : betweenB h 1 10 = false := by simpa using k3
        have hs : Hid (stC p b h = 2) := by show _ = _; simp [stC, k, k2, k3]
        clear k hr
        go_enter Try.func69, Try.ntmps69
        go_wp2_with (first | (go_at_call 62; refine (hV.out).mono ?_; rintro e w1 ⟨rfl, hb1⟩; first | (have hk1 := bchain (by assumption) hb1; obtain ⟨hc1, hf1, hz1, hl1⟩ := bcell hk1) | (obtain ⟨hc1, hf1, hz1, hl1⟩ := bcell hb1)) | (go_at_call 63; refine (l00In_any _ _ _ _).mono ?_; rintro e w' ⟨rfl, rfl⟩) | (go_at_call 85; refine (l08Height_any _ _).mono ?_; rintro e w' ⟨rfl, rfl⟩))
        go_ret
        exact ⟨by rw [hs.out]; rfl, hb1⟩
    · have k2 : betweenB b (-1000) 1000 = false := by simpa using k2
      have hs : Hid (stC p b h = 2) := by show _ = _; simp [stC, k, k2]
      clear k hr
      go_enter Try.func69, Try.ntmps69
      go_wp2_with (first | (go_at_call 62; refine (hV.out).mono ?_; rintro e w1 ⟨rfl, hb1⟩; first | (have hk1 := bchain (by assumption) hb1; obtain ⟨hc1, hf1, hz1, hl1⟩ := bcell hk1) | (obtain ⟨hc1, hf1, hz1, hl1⟩ := bcell hb1)) | (go_at_call 63; refine (l00In_any _ _ _ _).mono ?_; rintro e w' ⟨rfl, rfl⟩))
      go_ret
      exact ⟨by rw [hs.out]; rfl, hb1⟩
  · have k : okP p = false := by simpa using k
    rw [k] at hV
    have hV := hid hV
    have hs : Hid (stC p b h = 1) := by show _ = _; simp [stC, k]
    clear k hr
    go_enter Try.func69, Try.ntmps69
    go_wp2_with (first | (go_at_call 62; refine (hV.out).mono ?_; rintro e w1 ⟨rfl, hb1⟩; first | (have hk1 := bchain (by assumption) hb1; obtain ⟨hc1, hf1, hz1, hl1⟩ := bcell hk1) | (obtain ⟨hc1, hf1, hz1, hl1⟩ := bcell hb1)))
    go_ret
    exact ⟨by rw [hs.out]; rfl, hb1⟩
set_option maxHeartbeats 400000 in
theorem StateOf_any (A : Option Addr) (n c : Nat) (p : List Int) (b h : Int) (w : World) (hn : n ≤ 1099511627776) (hr : Rd w w.heap.size 1 A n (ints p)) :
    Calls Try.prog 46 #[.slice A n c, .int .i64 b, .int .i64 h] w fun e w' => e = .returned (.tuple #[.agg #[.int .i64 (rStateOf p b h).1.1, .int .i64 (rStateOf p b h).1.2], .int .i64 (rStateOf p b h).2]) ∧ Below w.heap.size w w' := by
  have hC := hid (fun (w1 : World) (r : Rd w1 w1.heap.size 1 A n (ints p)) => stateCode_any A n c p b h w1 hn r)
  have HA : Hid (Rd (w.alloc (.cells #[.int .i64 0, .int .i64 0] 26)) (w.alloc (.cells #[.int .i64 0, .int .i64 0] 26)).heap.size 1 A n (ints p)) := (hr.alloc (Nat.le_refl _) _).more (by simp)
  have HR := hid hr
  have hby0 := hid (Bx.new w 26 #[.int .i64 0, .int .i64 0])
  by_cases k : stC p b h = 0
  · obtain ⟨kp, b1, b2, h1, h2, _⟩ := stC_ok k
    obtain ⟨N, rfl⟩ := Int.eq_ofNat_of_zero_le (show 0 ≤ h by omega)
    have hs : Hid (rStateOf p b (N : Int) = (((N : Int), ((stM p b N : Nat) : Int)), (0 : Int))) := by show _ = _; rw [rStateOf, if_pos k, Int.toNat_natCast]
    rw [k] at hC
    have HO := hid (fun (w1 : World) (r : Rd w1 w1.heap.size 1 A n (ints p)) => stateOf_any A n c p b N w1 (by omega) (by omega) (by omega) kp r)
    generalize stM p b N = m at *
    clear k kp hr
    go_enter Try.func46, Try.ntmps46
    go_wp2_with (first | (go_at_call 84; refine (hC.out _ HA.out).mono ?_; rintro e w1 ⟨rfl, hb1⟩; have hby1 := hid (hby0.out.below hb1 hby0.out.lt); have hz1 := hb1.size; have hB1 : Below w.heap.size w w1 := ((Below.refl w.heap.size w).alloc (Nat.le_refl _) _).trans (hb1.mono (by simp)); have hlt1 := hby1.out.lt) | (go_at_call 72; refine (HO.out _ ((HR.out.below hB1 (Nat.le_refl _)).more hB1.size)).mono ?_; rintro e w2 ⟨rfl, hb2⟩; have hby2 := hid (hby1.out.below hb2 hlt1); have z0 : w2.cell? ⟨w.heap.size, 0, none⟩ = some (.int .i64 0) := hby2.out.cell 0; have z1 : w2.cell? ⟨w.heap.size, 1, none⟩ = some (.int .i64 0) := hby2.out.cell 1; have g0 := hby2.out.frozen 0; have g1 := hby2.out.frozen 1; have hlt2 := hby2.out.lt; have hB2 := hid (hB1.trans (hb2.mono hB1.size))))
    refine bodyPost_ret (v := .tuple #[.agg #[.int .i64 (N : Int), .int .i64 m], .int .i64 0]) ?_ rfl ⟨by rw [hs.out], ?_⟩
    · simp (maxDischargeDepth := 8) [results, Try.results46, go_sem, *]
    · first | exact (hB2.out.setCell (Nat.le_refl _) _).setCell (Nat.le_refl _) _ | exact (by repeat' (first | exact Below.refl _ _ | (with_reducible assumption) | (with_reducible refine Below.alloc ?_ ?_ _) | (with_reducible refine Below.setCell ?_ ?_ _) | (with_reducible refine Below.drew ?_) | (with_reducible refine below_drewN ?_ _) | (refine Below.trans ?_ (Below.mono (by assumption) ?_)) | (with_reducible exact Nat.le_refl _) | (with_reducible assumption) | (exact Below.size (by assumption)) | omega | go_size | (simp at *; omega)))
  · have hs : Hid (rStateOf p b h = ((0, 0), stC p b h)) := by show _ = _; rw [rStateOf, if_neg k]
    have hq : (stC p b h != 0) = true := by simpa using k
    generalize stC p b h = C at *
    clear k hr
    go_enter Try.func46, Try.ntmps46
    go_wp2_with (first | (go_at_call 84; refine (hC.out _ HA.out).mono ?_; rintro e w1 ⟨rfl, hb1⟩; have hby1 := hid (hby0.out.below hb1 hby0.out.lt); have z0 : w1.cell? ⟨w.heap.size, 0, none⟩ = some (.int .i64 0) := hby1.out.cell 0; have z1 : w1.cell? ⟨w.heap.size, 1, none⟩ = some (.int .i64 0) := hby1.out.cell 1; have g0 := hby1.out.frozen 0; have g1 := hby1.out.frozen 1; have hlt1 := hby1.out.lt; have hB1 := hid (((Below.refl w.heap.size w).alloc (Nat.le_refl _) (Obj.cells #[.int .i64 0, .int .i64 0] 26)).trans (hb1.mono (by simp)))))
    refine bodyPost_ret (v := .tuple #[.agg #[.int .i64 0, .int .i64 0], .int .i64 C]) ?_ rfl ⟨by rw [hs.out], ?_⟩
    · simp (maxDischargeDepth := 8) [results, Try.results46, go_sem, *]
    · first | exact (hB1.out.setCell (Nat.le_refl _) _).setCell (Nat.le_refl _) _ | exact hB1.out | exact (by repeat' (first | exact Below.refl _ _ | (with_reducible assumption) | (with_reducible refine Below.alloc ?_ ?_ _) | (with_reducible refine Below.setCell ?_ ?_ _) | (with_reducible refine Below.drew ?_) | (with_reducible refine below_drewN ?_ _) | (refine Below.trans ?_ (Below.mono (by assumption) ?_)) | (with_reducible exact Nat.le_refl _) | (with_reducible assumption) | (exact Below.size (by assumption)) | omega | go_size | (simp at *; omega)))
set_option maxHeartbeats 400000 in
theorem specStateOf_any (A : Option Addr) (n c : Nat) (p : List Int) (b h : Int) (w : World) (hn : n ≤ 1099511627776) (hr : Rd w w.heap.size 1 A n (ints p)) :
    Calls Try.prog 45 #[.slice A n c, .int .i64 b, .int .i64 h] w fun e w' => e = .returned (.tuple #[.agg #[.int .i64 (rStateOf p b h).1.1, .int .i64 (rStateOf p b h).1.2], .int .i64 (rStateOf p b h).2]) ∧ Below w.heap.size w w' := by
  have hC := hid (fun (w1 : World) (r : Rd w1 w1.heap.size 1 A n (ints p)) => l08Code_any A n c p b h w1 hn r)
  have HA : Hid (Rd (w.alloc (.cells #[.int .i64 0, .int .i64 0] 26)) (w.alloc (.cells #[.int .i64 0, .int .i64 0] 26)).heap.size 1 A n (ints p)) := (hr.alloc (Nat.le_refl _) _).more (by simp)
  have HR := hid hr
  have hby0 := hid (Bx.new w 26 #[.int .i64 0, .int .i64 0])
  by_cases k : stC p b h = 0
  · obtain ⟨kp, b1, b2, h1, h2, _⟩ := stC_ok k
    obtain ⟨N, rfl⟩ := Int.eq_ofNat_of_zero_le (show 0 ≤ h by omega)
    have hs : Hid (rStateOf p b (N : Int) = (((N : Int), ((stM p b N : Nat) : Int)), (0 : Int))) := by show _ = _; rw [rStateOf, if_pos k, Int.toNat_natCast]
    rw [k] at hC
    have HO := hid (fun (w1 : World) (r : Rd w1 w1.heap.size 1 A n (ints p)) => l08Of_any A n c p b N w1 (by omega) (by omega) (by omega) kp r)
    generalize stM p b N = m at *
    clear k kp hr
    go_enter Try.func45, Try.ntmps45
    go_wp2_with (first | (go_at_call 69; refine (hC.out _ HA.out).mono ?_; rintro e w1 ⟨rfl, hb1⟩; have hby1 := hid (hby0.out.below hb1 hby0.out.lt); have hz1 := hb1.size; have hB1 : Below w.heap.size w w1 := ((Below.refl w.heap.size w).alloc (Nat.le_refl _) _).trans (hb1.mono (by simp)); have hlt1 := hby1.out.lt) | (go_at_call 70; refine (HO.out _ ((HR.out.below hB1 (Nat.le_refl _)).more hB1.size)).mono ?_; rintro e w2 ⟨rfl, hb2⟩; have hby2 := hid (hby1.out.below hb2 hlt1); have z0 : w2.cell? ⟨w.heap.size, 0, none⟩ = some (.int .i64 0) := hby2.out.cell 0; have z1 : w2.cell? ⟨w.heap.size, 1, none⟩ = some (.int .i64 0) := hby2.out.cell 1; have g0 := hby2.out.frozen 0; have g1 := hby2.out.frozen 1; have hlt2 := hby2.out.lt; have hB2 := hid (hB1.trans (hb2.mono hB1.size))))
    refine bodyPost_ret (v := .tuple #[.agg #[.int .i64 (N : Int), .int .i64 m], .int .i64 0]) ?_ rfl ⟨by rw [hs.out], ?_⟩
    · simp (maxDischargeDepth := 8) [results, Try.results45, go_sem, *]
    · first | exact (hB2.out.setCell (Nat.le_refl _) _).setCell (Nat.le_refl _) _ | exact (by repeat' (first | exact Below.refl _ _ | (with_reducible assumption) | (with_reducible refine Below.alloc ?_ ?_ _) | (with_reducible refine Below.setCell ?_ ?_ _) | (with_reducible refine Below.drew ?_) | (with_reducible refine below_drewN ?_ _) | (refine Below.trans ?_ (Below.mono (by assumption) ?_)) | (with_reducible exact Nat.le_refl _) | (with_reducible assumption) | (exact Below.size (by assumption)) | omega | go_size | (simp at *; omega)))
  · have hs : Hid (rStateOf p b h = ((0, 0), stC p b h)) := by show _ = _; rw [rStateOf, if_neg k]
    have hq : (stC p b h != 0) = true := by simpa using k
    generalize stC p b h = C at *
    clear k hr
    go_enter Try.func45, Try.ntmps45
    go_wp2_with (first | (go_at_call 69; refine (hC.out _ HA.out).mono ?_; rintro e w1 ⟨rfl, hb1⟩; have hby1 := hid (hby0.out.below hb1 hby0.out.lt); have z0 : w1.cell? ⟨w.heap.size, 0, none⟩ = some (.int .i64 0) := hby1.out.cell 0; have z1 : w1.cell? ⟨w.heap.size, 1, none⟩ = some (.int .i64 0) := hby1.out.cell 1; have g0 := hby1.out.frozen 0; have g1 := hby1.out.frozen 1; have hlt1 := hby1.out.lt; have hB1 := hid (((Below.refl w.heap.size w).alloc (Nat.le_refl _) (Obj.cells #[.int .i64 0, .int .i64 0] 26)).trans (hb1.mono (by simp)))))
    refine bodyPost_ret (v := .tuple #[.agg #[.int .i64 0, .int .i64 0], .int .i64 C]) ?_ rfl ⟨by rw [hs.out], ?_⟩
    · simp (maxDischargeDepth := 8) [results, Try.results45, go_sem, *]
    · first | exact (hB1.out.setCell (Nat.le_refl _) _).setCell (Nat.le_refl _) _ | exact hB1.out | exact (by repeat' (first | exact Below.refl _ _ | (with_reducible assumption) | (with_reducible refine Below.alloc ?_ ?_ _) | (with_reducible refine Below.setCell ?_ ?_ _) | (with_reducible refine Below.drew ?_) | (with_reducible refine below_drewN ?_ _) | (refine Below.trans ?_ (Below.mono (by assumption) ?_)) | (with_reducible exact Nat.le_refl _) | (with_reducible assumption) | (exact Below.size (by assumption)) | omega | go_size | (simp at *; omega)))

theorem fnExactStateOf_walk (w : World) (aPA : Option Addr) (aPN aPC : Nat) (aP : List Int) (aPK : Came .i64 w aPA aPN aPC aP) (aBeat : Int) (_ : BD aBeat) (aHeight : Int) (_ : BD aHeight) :
    Calls Try.prog 14 #[.slice aPA aPN aPC, .int .i64 aBeat, .int .i64 aHeight] w fun e w' => e = .returned (.bool true) ∧ Below w.heap.size w w' := by
  by_cases hlong0 : 1048576 < aPN
  · have hmaP := aPK.2.1
    go_enter Try.func14, Try.ntmps14
    go_wp2
    go_ret
    exact ⟨rfl, (by repeat' (first | exact Below.refl _ _ | (with_reducible assumption) | (with_reducible refine Below.alloc ?_ ?_ _) | (with_reducible refine Below.setCell ?_ ?_ _) | (with_reducible refine Below.drew ?_) | (with_reducible refine below_drewN ?_ _) | (refine Below.trans ?_ (Below.mono (by assumption) ?_)) | (with_reducible exact Nat.le_refl _) | (with_reducible assumption) | (exact Below.size (by assumption)) | omega | go_size | (simp at *; omega)))⟩
  have KaP := Rd.of_came aPK
  have KLaP := KaP.len
  have B0aP := hid aPK
  have hS := hid (fun (AaP : Option Addr) (caP : Nat) (w1 : World) (kaP : Rd w1 w1.heap.size 1 AaP aPN (ints aP)) => specStateOf_any AaP aPN caP aP aBeat aHeight w1 (by omega) kaP)
  have hI := hid (fun (AaP : Option Addr) (caP : Nat) (w1 : World) (kaP : Rd w1 w1.heap.size 1 AaP aPN (ints aP)) => StateOf_any AaP aPN caP aP aBeat aHeight w1 (by omega) kaP)
  generalize rStateOf aP aBeat aHeight = r at *
  obtain ⟨⟨r0h, r0m⟩, r1⟩ := r
  have hB := Below.refl w.heap.size w
  go_enter Try.func14, Try.ntmps14
  go_wp2_with (go_at_call 19; refine (toInt64S_any _ _ _ _ _ (by omega) ((KaP.below hB (Nat.le_refl _)).more hB.size)).mono ?_; rintro e w1 ⟨v1, rfl, ho1, hb1⟩; obtain ⟨A1, c1, rfl⟩ := own_form ho1; have l1 := ho1.lt; have s1 := hb1.size; replace hB := bchain hB hb1)
  go_wp2_with (go_at_call 45; refine (hS.out _ _ _ (Rd.of_own ho1)).mono ?_; rintro e w2 ⟨rfl, hb2⟩; have s2 := hb2.size; replace hB := bchain hB hb2)
  go_wp2_with (go_at_call 19; refine (toInt64S_any _ _ _ _ _ (by omega) ((((KaP.below hB (Nat.le_refl _)).more hB.size).alloc (Nat.le_refl _) _).more (by simp))).mono ?_; rintro e w3 ⟨v3, rfl, ho3, hb3⟩; obtain ⟨A3, c3, rfl⟩ := own_form ho3; have l3 := ho3.lt; have s3 := sizeA hb3; replace hB := bchainA hB hb3; have hX3 := hb3)
  go_wp2_with (go_at_call 46; refine (hI.out _ _ _ (Rd.of_own ho3)).mono ?_; rintro e w4 ⟨rfl, hb4⟩; have s4 := hb4.size; replace hB := bchain hB hb4; replace hX3 := bchain hX3 hb4; replace ho3 := own_below ho3 hb4; obtain ⟨hchX3, hfhX3, hzhX3, hlhX3⟩ := bcell hX3)
  go_wp2_with (go_at_call 47; refine (eqState_same _ _ _).mono ?_; rintro e w5 ⟨rfl, hb5⟩; have s5 := sizeA hb5; replace hB := bchainA hB hb5; replace hX3 := bchainA hX3 hb5; have hX5 := hb5; replace ho3 := own_below (ho3.alloc _) hb5; obtain ⟨hchX3, hfhX3, hzhX3, hlhX3⟩ := bcell hX3; obtain ⟨hchX5, hfhX5, hzhX5, hlhX5⟩ := bcell hX5)
  go_wp2_with (go_at_call 19; refine (toInt64S_any _ _ _ _ _ (by omega) ((KaP.below hB (Nat.le_refl _)).more hB.size)).mono ?_; rintro e w6 ⟨v6, rfl, ho6, hb6⟩; obtain ⟨A6, c6, rfl⟩ := own_form ho6; have l6 := ho6.lt; have s6 := hb6.size; replace hB := bchain hB hb6; replace hX3 := bchain hX3 hb6; replace hX5 := bchain hX5 hb6; replace ho3 := own_below ho3 hb6; obtain ⟨hchX3, hfhX3, hzhX3, hlhX3⟩ := bcell hX3; obtain ⟨hchX5, hfhX5, hzhX5, hlhX5⟩ := bcell hX5)
  go_wp2_with (go_at_call 21; refine (eqInt64S_same _ _ _ _ _ _ _ (by omega) (Rd.of_own ho3) (Rd.of_own ho6)).mono ?_; rintro e w7 ⟨rfl, hb7⟩; have s7 := hb7.size; replace hB := bchain hB hb7; replace hX3 := bchain hX3 hb7; replace hX5 := bchain hX5 hb7)
  go_ret
  exact ⟨rfl, (by repeat' (first | exact Below.refl _ _ | (with_reducible assumption) | (with_reducible refine Below.alloc ?_ ?_ _) | (with_reducible refine Below.setCell ?_ ?_ _) | (with_reducible refine Below.drew ?_) | (with_reducible refine below_drewN ?_ _) | (refine Below.trans ?_ (Below.mono (by assumption) ?_)) | (with_reducible exact Nat.le_refl _) | (with_reducible assumption) | (exact Below.size (by assumption)) | omega | go_size | (simp at *; omega)))⟩


end Go.Proofs.Ythbbfhlpoinenaa
