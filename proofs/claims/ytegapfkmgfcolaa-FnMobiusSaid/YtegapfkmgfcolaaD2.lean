/- The walk of the law of the Moebius function. -/
import Derived.Test.YtegapfkmgfcolaaD
import Derived.Test.YtegapfkmgfcolaaP
namespace Go.Proofs.Ytegapfkmgfcolaa
open Go.RowKit
set_option linter.unusedVariables false

/-- A number that depends on some bytes: all that is asked is its range. -/
theorem a2At_any (A : Option Addr) (len cap : Nat) (xs : List Int) (i k : Int) (w W : World) (hw : ∀ p : Addr, p.block < W.heap.size → w.cell? p = W.cell? p) (hc : Came .u8 W A len cap xs) (hl : len ≤ 1099511627776) (hi : 0 ≤ i) (hk : 1 ≤ k) :
    Calls Try.prog 26 #[.slice A len cap, .int .i64 i, .int .i64 k] w fun e w' => (∃ x, 0 ≤ x ∧ x < k ∧ e = .returned (.int .i64 x)) ∧ w = w' := by
  by_cases h : i < (len : Int)
  · obtain ⟨j, rfl⟩ := Int.eq_ofNat_of_zero_le hi
    obtain ⟨h1, h2, h3, h4, h5⟩ := hc
    obtain ⟨b, off, rfl, hb, hcell⟩ := h5 (by omega)
    have hj : j < xs.length := by omega
    obtain ⟨x, hx⟩ : ∃ x, xs[j]? = some x := ⟨_, List.getElem?_eq_getElem hj⟩
    have hw8 := h4 x (List.mem_of_getElem? hx)
    have hx0 : 0 ≤ x ∧ x ≤ 255 := by simp [Lit.wf, IntKind.min, IntKind.max, IntKind.bits, IntKind.signed] at hw8; omega
    obtain ⟨x0, x1⟩ := hx0
    have hcc : w.cell? ⟨b, off + j, none⟩ = some (.int .u8 x) := (hw _ hb).trans (hcell j x hx)
    have hm0 : 0 ≤ x % k := Int.emod_nonneg _ (by omega)
    have hm1 : x % k < k := Int.emod_lt_of_pos _ (by omega)
    clear hcell hx hw hw8 h4 h5
    go_enter Try.func26, Try.ntmps26
    go_wp2
    go_ret
    exact ⟨⟨_, hm0, hm1, rfl⟩, rfl⟩
  · go_enter Try.func26, Try.ntmps26
    go_wp2
    go_ret
    exact ⟨⟨0, by omega, by omega, rfl⟩, rfl⟩
theorem a2Long_any (A A' : Option Addr) (n c n' c' : Nat) (w : World) (hn : n ≤ 9223372036854775807) (hn' : n' ≤ 9223372036854775807) :
    Calls Try.prog 25 #[.slice A n c, .slice A' n' c'] w fun e w' => e = .returned (.bool (decide (3000 < n) || decide (3000 < n'))) ∧ w = w' := by
  by_cases h : 3000 < n
  · go_enter Try.func25, Try.ntmps25
    go_wp2
    go_ret
    exact ⟨ret_bool (by first | (simp; done) | (rw [Bool.eq_iff_iff]; simp; omega)), rfl⟩
  · go_enter Try.func25, Try.ntmps25
    go_wp2
    go_ret
    exact ⟨ret_bool (by first | (simp; done) | (rw [Bool.eq_iff_iff]; simp; omega)), rfl⟩
theorem Mobius_in (x : Int) (w : World) (h1 : 1 ≤ x) (h2 : x ≤ 1000) :
    Calls Try.prog 24 #[.int .i64 x] w fun e w' => e = .returned (.tuple #[.int .i64 (mobF 1001 x 2 1), .int .i64 0]) ∧ w = w' := by
  have h := Mobius_any x w
  have e : mobR x = (mobF 1001 x 2 1, 0) := by
    have k : betweenB x 1 1000 = true := (betweenB_iff _ _ _).2 ⟨h1, h2⟩
    simp [mobR, k]
  rwa [e] at h
theorem DivisorsOf_in (n : Int) (w : World) (h1 : 1 ≤ n) (h2 : n ≤ 1000) :
    Calls Try.prog 27 #[.int .i64 n] w fun e w' => ∃ v, e = .returned (.tuple #[v, .int .i64 0]) ∧ w'.ownsRow w.heap.size 2 1 v (divL n n.toNat 1).length (ints (divL n n.toNat 1)) ∧ Below w.heap.size w w' := by
  have h := DivisorsOf_any n w
  have e : rDivisorsOf n = (divL n n.toNat 1, 0) := by
    have k : betweenB n 1 1000 = true := (betweenB_iff _ _ _).2 ⟨h1, h2⟩
    simp [rDivisorsOf, k]
  rwa [e] at h
theorem mobS_snoc : ∀ (l : List Int) (i : Nat) (x : Int), l.drop i = x :: l.drop (i + 1) → mobS (l.drop i) = mobF 1001 x 2 1 + mobS (l.drop (i + 1)) := by
  intro l i x h; rw [h]; rfl

set_option maxHeartbeats 1600000 in
set_option maxRecDepth 100000 in
theorem fnMobius_main (A : Option Addr) (len cap : Nat) (xs : List Int) (w : World) (hK : Came .u8 w A len cap xs) (hl : len ≤ 3000) :
    Calls Try.prog 7 #[.slice A len cap] w fun e w' => e = .returned (.bool true) ∧ Below w.heap.size w w' := by
  have hKH := hid hK
  clear hK
  have hl' : (decide (3000 < len) || decide (3000 < 0)) = false := by simp; omega
  go_enter Try.func7, Try.ntmps7
  go_wp2_with (go_at_call 25; refine (a2Long_any _ _ _ _ _ _ _ (by omega) (by omega)).mono ?_; rintro e w' ⟨rfl, rfl⟩)
  refine (a2At_any _ _ _ _ _ _ _ w (fun _ _ => rfl) hKH.out (by omega) (by omega) (by omega)).mono ?_
  rintro e w' ⟨⟨x, x1, x2, rfl⟩, rfl⟩
  go_wp2_with fail
  refine (a2At_any _ _ _ _ _ _ _ w (fun _ _ => rfl) hKH.out (by omega) (by omega) (by omega)).mono ?_
  rintro e w' ⟨⟨y, y1, y2, rfl⟩, rfl⟩
  by_cases hxy : 1 + x * 4 - y < 1
  · go_wp2_with fail
    have hdv := DivisorsOf_in 1 w (by omega) (by omega)
    have hlen := divL_len 1 (1 : Int).toNat 1
    obtain ⟨L', hL'⟩ := divL_one (n := 1) (by omega)
    have hlast := divL_last 1 (1 : Int).toNat 1 (by omega) (by omega)
    have hmem := divL_mem 1 (1 : Int).toNat 1
    have hris := divL_rises 1 (1 : Int).toNat 1
    have hsum : mobS (divL 1 (1 : Int).toNat 1) = 1 := (by decide +kernel)
    generalize divL 1 (1 : Int).toNat 1 = L at *
    refine hdv.mono ?_
    clear hdv
    rintro e w1 ⟨v1, rfl, ho1, hb1⟩
    obtain ⟨A1, c1, rfl⟩ := own_form ho1
    have hl0 : 0 < L.length := by rw [hL']; simp
    obtain ⟨b, off, y0, rfl, hb, hy0, _, hc0⟩ := (Rd.of_own ho1).at_ hl0
    have e0 : y0 = 1 := by rw [hL'] at hy0; simpa using hy0.symm
    rw [e0, Nat.add_zero] at hc0
    obtain ⟨b', off', yl, hA, _, hyl, _, hcl⟩ := (Rd.of_own ho1).at_ (show L.length - 1 < L.length by omega)
    injection hA with hA
    injection hA with e1 e2
    subst e1 e2
    have el : yl = 1 := by rw [List.getLast?_eq_getElem?, hyl] at hlast; exact Option.some.inj hlast
    rw [el] at hcl
    have hq1 : ((1 : Int) != 1) = false := by simp
    have HL' := hid hL'
    have HR := hid (Rd.of_own ho1)
    have HM := hid hmem
    have HRi := hid hris
    have HS := hid hsum
    have hll : L.length ≤ 997 := by omega
    have hne : ((L.length : Int) == 0) = false := beq_eq_false_iff_ne.2 (by omega)
    clear hL' hmem hris hsum ho1 hy0 hyl hlast e0 el
    go_wp2
    go_loopw [6, 7] (fun s i wr => ∃ (k : Nat) (t : Int), k ≤ L.length ∧ i = .int .i64 k ∧ s = .int .i64 t ∧ -(k : Int) ≤ t ∧ t ≤ (k : Int) ∧ Hid (t + mobS (L.drop k) = mobS L) ∧ Below w1.heap.size w1 wr) (fun _ i _ => L.length - (intOf i).toNat)
    case atStart => exact ⟨0, 0, Nat.zero_le _, rfl, rfl, by omega, by omega, (by show _ = _; simp), Below.refl _ _⟩
    case round =>
      obtain ⟨k, t, hk, rfl, rfl, t0, t1, he, hbw⟩ := hrel
      by_cases hlt : k < L.length
      · obtain ⟨bk, ofk, x, hAk, _, hx, hd, hcx⟩ := (HR.out.below hbw (Nat.le_refl _)).at_ hlt
        injection hAk with hAk
        injection hAk with e1 e2
        subst e1 e2
        obtain ⟨x0, x1, hxm⟩ := HM.out x (List.mem_of_getElem? hx)
        have hx997 : x ≤ 997 := by omega
        obtain ⟨m0, m1⟩ := mobF_bd 1001 x 2 1 (by omega) (by omega)
        have hMo := hid (Mobius_in x wr x0 (by omega))
        have HZ : Hid ((t + mobF 1001 x 2 1) + mobS (L.drop (k + 1)) = mobS L) := by show _ = _; rw [← he.out, mobS_snoc L k x hd]; omega
        generalize mobF 1001 x 2 1 = m at *
        have q1 : decide (m < -1) = false := by simp; omega
        have q2 : decide (1 < m) = false := by simp; omega
        have q3 : decide (x < 1) = false := by simp; omega
        have q4 : (1 % x != 0) = false := by simp [hxm]
        rcases Nat.eq_zero_or_pos k with hk0 | hk0
        · subst hk0
          have hc00 : wr.cell? ⟨b, off, none⟩ = some (.int .i64 x) := by simpa using hcx
          clear he hd hx hxm hc0 hcx
          go_wp2_with (go_at_call 24; refine (hMo.out).mono ?_; rintro e w' ⟨rfl, rfl⟩)
          go_quiet (fail)
          go_wp2
          go_roundw
          case rel => exact ⟨0 + 1, t + m, by omega, by go_num, rfl, by omega, by omega, HZ, (by repeat' (first | exact Below.refl _ _ | (with_reducible assumption) | (with_reducible refine Below.alloc ?_ ?_ _) | (with_reducible refine Below.setCell ?_ ?_ _) | (with_reducible refine Below.drew ?_) | (with_reducible refine below_drewN ?_ _) | (refine Below.trans ?_ (Below.mono (by assumption) ?_)) | (with_reducible exact Nat.le_refl _) | (with_reducible assumption) | (exact Below.size (by assumption)) | omega | go_size | (simp at *; omega)))⟩
          case measure => simp [intOf]; omega
        · exfalso
          have hll1 : L.length ≤ 1 := hlen
          omega
      · have ht : t = 1 := by
          have h1 := he.out
          rw [List.drop_eq_nil_of_le (by omega), HS.out] at h1
          simp only [mobS] at h1
          omega
        subst ht
        clear he
        go_wp2
        go_ret
        exact ⟨rfl, (by repeat' (first | exact Below.refl _ _ | (with_reducible assumption) | (with_reducible refine Below.alloc ?_ ?_ _) | (with_reducible refine Below.setCell ?_ ?_ _) | (with_reducible refine Below.drew ?_) | (with_reducible refine below_drewN ?_ _) | (refine Below.trans ?_ (Below.mono (by assumption) ?_)) | (with_reducible exact Nat.le_refl _) | (with_reducible assumption) | (exact Below.size (by assumption)) | omega | go_size | (simp at *; omega)))⟩
  · go_wp2_with fail
    generalize hN : 1 + x * 4 - y = N at *
    have N1 : 1 ≤ N := by omega
    have N2 : N ≤ 997 := by omega
    clear hN
    by_cases hN1 : N = 1
    · subst hN1
      have hdv := DivisorsOf_in 1 w (by omega) (by omega)
      have hlen := divL_len 1 (1 : Int).toNat 1
      obtain ⟨L', hL'⟩ := divL_one (n := 1) (by omega)
      have hlast := divL_last 1 (1 : Int).toNat 1 (by omega) (by omega)
      have hmem := divL_mem 1 (1 : Int).toNat 1
      have hris := divL_rises 1 (1 : Int).toNat 1
      have hsum : mobS (divL 1 (1 : Int).toNat 1) = 1 := (by decide +kernel)
      generalize divL 1 (1 : Int).toNat 1 = L at *
      refine hdv.mono ?_
      clear hdv
      rintro e w1 ⟨v1, rfl, ho1, hb1⟩
      obtain ⟨A1, c1, rfl⟩ := own_form ho1
      have hl0 : 0 < L.length := by rw [hL']; simp
      obtain ⟨b, off, y0, rfl, hb, hy0, _, hc0⟩ := (Rd.of_own ho1).at_ hl0
      have e0 : y0 = 1 := by rw [hL'] at hy0; simpa using hy0.symm
      rw [e0, Nat.add_zero] at hc0
      obtain ⟨b', off', yl, hA, _, hyl, _, hcl⟩ := (Rd.of_own ho1).at_ (show L.length - 1 < L.length by omega)
      injection hA with hA
      injection hA with e1 e2
      subst e1 e2
      have el : yl = 1 := by rw [List.getLast?_eq_getElem?, hyl] at hlast; exact Option.some.inj hlast
      rw [el] at hcl
      have hq1 : ((1 : Int) != 1) = false := by simp
      have HL' := hid hL'
      have HR := hid (Rd.of_own ho1)
      have HM := hid hmem
      have HRi := hid hris
      have HS := hid hsum
      have hll : L.length ≤ 997 := by omega
      have hne : ((L.length : Int) == 0) = false := beq_eq_false_iff_ne.2 (by omega)
      clear hL' hmem hris hsum ho1 hy0 hyl hlast e0 el
      go_wp2
      go_loopw [6, 7] (fun s i wr => ∃ (k : Nat) (t : Int), k ≤ L.length ∧ i = .int .i64 k ∧ s = .int .i64 t ∧ -(k : Int) ≤ t ∧ t ≤ (k : Int) ∧ Hid (t + mobS (L.drop k) = mobS L) ∧ Below w1.heap.size w1 wr) (fun _ i _ => L.length - (intOf i).toNat)
      case atStart => exact ⟨0, 0, Nat.zero_le _, rfl, rfl, by omega, by omega, (by show _ = _; simp), Below.refl _ _⟩
      case round =>
        obtain ⟨k, t, hk, rfl, rfl, t0, t1, he, hbw⟩ := hrel
        by_cases hlt : k < L.length
        · obtain ⟨bk, ofk, x, hAk, _, hx, hd, hcx⟩ := (HR.out.below hbw (Nat.le_refl _)).at_ hlt
          injection hAk with hAk
          injection hAk with e1 e2
          subst e1 e2
          obtain ⟨x0, x1, hxm⟩ := HM.out x (List.mem_of_getElem? hx)
          have hx997 : x ≤ 997 := by omega
          obtain ⟨m0, m1⟩ := mobF_bd 1001 x 2 1 (by omega) (by omega)
          have hMo := hid (Mobius_in x wr x0 (by omega))
          have HZ : Hid ((t + mobF 1001 x 2 1) + mobS (L.drop (k + 1)) = mobS L) := by show _ = _; rw [← he.out, mobS_snoc L k x hd]; omega
          generalize mobF 1001 x 2 1 = m at *
          have q1 : decide (m < -1) = false := by simp; omega
          have q2 : decide (1 < m) = false := by simp; omega
          have q3 : decide (x < 1) = false := by simp; omega
          have q4 : (1 % x != 0) = false := by simp [hxm]
          rcases Nat.eq_zero_or_pos k with hk0 | hk0
          · subst hk0
            have hc00 : wr.cell? ⟨b, off, none⟩ = some (.int .i64 x) := by simpa using hcx
            clear he hd hx hxm hc0 hcx
            go_wp2_with (go_at_call 24; refine (hMo.out).mono ?_; rintro e w' ⟨rfl, rfl⟩)
            go_quiet (fail)
            go_wp2
            go_roundw
            case rel => exact ⟨0 + 1, t + m, by omega, by go_num, rfl, by omega, by omega, HZ, (by repeat' (first | exact Below.refl _ _ | (with_reducible assumption) | (with_reducible refine Below.alloc ?_ ?_ _) | (with_reducible refine Below.setCell ?_ ?_ _) | (with_reducible refine Below.drew ?_) | (with_reducible refine below_drewN ?_ _) | (refine Below.trans ?_ (Below.mono (by assumption) ?_)) | (with_reducible exact Nat.le_refl _) | (with_reducible assumption) | (exact Below.size (by assumption)) | omega | go_size | (simp at *; omega)))⟩
            case measure => simp [intOf]; omega
          · exfalso
            have hll1 : L.length ≤ 1 := hlen
            omega
        · have ht : t = 1 := by
            have h1 := he.out
            rw [List.drop_eq_nil_of_le (by omega), HS.out] at h1
            simp only [mobS] at h1
            omega
          subst ht
          clear he
          go_wp2
          go_ret
          exact ⟨rfl, (by repeat' (first | exact Below.refl _ _ | (with_reducible assumption) | (with_reducible refine Below.alloc ?_ ?_ _) | (with_reducible refine Below.setCell ?_ ?_ _) | (with_reducible refine Below.drew ?_) | (with_reducible refine below_drewN ?_ _) | (refine Below.trans ?_ (Below.mono (by assumption) ?_)) | (with_reducible exact Nat.le_refl _) | (with_reducible assumption) | (exact Below.size (by assumption)) | omega | go_size | (simp at *; omega)))⟩
    · have N3 : 2 ≤ N := by omega
      clear hN1
      have hdv := DivisorsOf_in N w (by omega) (by omega)
      have hlen := divL_len N (N : Int).toNat 1
      obtain ⟨L', hL'⟩ := divL_one (n := N) (by omega)
      have hlast := divL_last N (N : Int).toNat 1 (by omega) (by omega)
      have hmem := divL_mem N (N : Int).toNat 1
      have hris := divL_rises N (N : Int).toNat 1
      have hsum : mobS (divL N (N : Int).toNat 1) = 0 := mobS_div (by omega) (by omega)
      generalize divL N (N : Int).toNat 1 = L at *
      refine hdv.mono ?_
      clear hdv
      rintro e w1 ⟨v1, rfl, ho1, hb1⟩
      obtain ⟨A1, c1, rfl⟩ := own_form ho1
      have hl0 : 0 < L.length := by rw [hL']; simp
      obtain ⟨b, off, y0, rfl, hb, hy0, _, hc0⟩ := (Rd.of_own ho1).at_ hl0
      have e0 : y0 = 1 := by rw [hL'] at hy0; simpa using hy0.symm
      rw [e0, Nat.add_zero] at hc0
      obtain ⟨b', off', yl, hA, _, hyl, _, hcl⟩ := (Rd.of_own ho1).at_ (show L.length - 1 < L.length by omega)
      injection hA with hA
      injection hA with e1 e2
      subst e1 e2
      have el : yl = N := by rw [List.getLast?_eq_getElem?, hyl] at hlast; exact Option.some.inj hlast
      rw [el] at hcl
      have hq1 : ((1 : Int) != 1) = false := by simp
      have hqN : (N != N) = false := by simp
      have HL' := hid hL'
      have HR := hid (Rd.of_own ho1)
      have HM := hid hmem
      have HRi := hid hris
      have HS := hid hsum
      have hll : L.length ≤ 997 := by omega
      have hne : ((L.length : Int) == 0) = false := beq_eq_false_iff_ne.2 (by omega)
      clear hL' hmem hris hsum ho1 hy0 hyl hlast e0 el
      go_wp2
      go_loopw [6, 7] (fun s i wr => ∃ (k : Nat) (t : Int), k ≤ L.length ∧ i = .int .i64 k ∧ s = .int .i64 t ∧ -(k : Int) ≤ t ∧ t ≤ (k : Int) ∧ Hid (t + mobS (L.drop k) = mobS L) ∧ Below w1.heap.size w1 wr) (fun _ i _ => L.length - (intOf i).toNat)
      case atStart => exact ⟨0, 0, Nat.zero_le _, rfl, rfl, by omega, by omega, (by show _ = _; simp), Below.refl _ _⟩
      case round =>
        obtain ⟨k, t, hk, rfl, rfl, t0, t1, he, hbw⟩ := hrel
        by_cases hlt : k < L.length
        · obtain ⟨bk, ofk, x, hAk, _, hx, hd, hcx⟩ := (HR.out.below hbw (Nat.le_refl _)).at_ hlt
          injection hAk with hAk
          injection hAk with e1 e2
          subst e1 e2
          obtain ⟨x0, x1, hxm⟩ := HM.out x (List.mem_of_getElem? hx)
          have hx997 : x ≤ 997 := by omega
          obtain ⟨m0, m1⟩ := mobF_bd 1001 x 2 1 (by omega) (by omega)
          have hMo := hid (Mobius_in x wr x0 (by omega))
          have HZ : Hid ((t + mobF 1001 x 2 1) + mobS (L.drop (k + 1)) = mobS L) := by show _ = _; rw [← he.out, mobS_snoc L k x hd]; omega
          generalize mobF 1001 x 2 1 = m at *
          have q1 : decide (m < -1) = false := by simp; omega
          have q2 : decide (1 < m) = false := by simp; omega
          have q3 : decide (x < 1) = false := by simp; omega
          have q4 : (N % x != 0) = false := by simp [hxm]
          rcases Nat.eq_zero_or_pos k with hk0 | hk0
          · subst hk0
            have hc00 : wr.cell? ⟨b, off, none⟩ = some (.int .i64 x) := by simpa using hcx
            clear he hd hx hxm hc0 hcx
            go_wp2_with (go_at_call 24; refine (hMo.out).mono ?_; rintro e w' ⟨rfl, rfl⟩)
            go_quiet (fail)
            go_wp2
            go_roundw
            case rel => exact ⟨0 + 1, t + m, by omega, by go_num, rfl, by omega, by omega, HZ, (by repeat' (first | exact Below.refl _ _ | (with_reducible assumption) | (with_reducible refine Below.alloc ?_ ?_ _) | (with_reducible refine Below.setCell ?_ ?_ _) | (with_reducible refine Below.drew ?_) | (with_reducible refine below_drewN ?_ _) | (refine Below.trans ?_ (Below.mono (by assumption) ?_)) | (with_reducible exact Nat.le_refl _) | (with_reducible assumption) | (exact Below.size (by assumption)) | omega | go_size | (simp at *; omega)))⟩
            case measure => simp [intOf]; omega
          · obtain ⟨bp, ofp, y, hAp, _, hy, _, hcy⟩ := (HR.out.below hbw (Nat.le_refl _)).at_ (show k - 1 < L.length by omega)
            injection hAp with hAp
            injection hAp with e1 e2
            subst e1 e2
            have hyx : y < x := by
              obtain ⟨h1, h2⟩ := List.getElem?_eq_some_iff.1 hx
              obtain ⟨h3, h4⟩ := List.getElem?_eq_some_iff.1 hy
              rw [← h2, ← h4]
              exact List.pairwise_iff_getElem.1 HRi.out (k - 1) k h3 h1 (by omega)
            have q5 : decide (x ≤ y) = false := by simp; omega
            clear he hd hx hxm hy
            go_wp2_with (go_at_call 24; refine (hMo.out).mono ?_; rintro e w' ⟨rfl, rfl⟩)
            go_quiet (fail)
            go_wp2
            go_roundw
            case rel => exact ⟨k + 1, t + m, by omega, by go_num, rfl, by omega, by omega, HZ, (by repeat' (first | exact Below.refl _ _ | (with_reducible assumption) | (with_reducible refine Below.alloc ?_ ?_ _) | (with_reducible refine Below.setCell ?_ ?_ _) | (with_reducible refine Below.drew ?_) | (with_reducible refine below_drewN ?_ _) | (refine Below.trans ?_ (Below.mono (by assumption) ?_)) | (with_reducible exact Nat.le_refl _) | (with_reducible assumption) | (exact Below.size (by assumption)) | omega | go_size | (simp at *; omega)))⟩
            case measure => simp [intOf]; omega
        · have ht : t = 0 := by
            have h1 := he.out
            rw [List.drop_eq_nil_of_le (by omega), HS.out] at h1
            simp only [mobS] at h1
            omega
          subst ht
          clear he
          go_wp2
          go_ret
          exact ⟨rfl, (by repeat' (first | exact Below.refl _ _ | (with_reducible assumption) | (with_reducible refine Below.alloc ?_ ?_ _) | (with_reducible refine Below.setCell ?_ ?_ _) | (with_reducible refine Below.drew ?_) | (with_reducible refine below_drewN ?_ _) | (refine Below.trans ?_ (Below.mono (by assumption) ?_)) | (with_reducible exact Nat.le_refl _) | (with_reducible assumption) | (exact Below.size (by assumption)) | omega | go_size | (simp at *; omega)))⟩
theorem fnMobius_walk (w : World) (A : Option Addr) (n c : Nat) (xs : List Int) (hK : Came .u8 w A n c xs) :
    Calls Try.prog 7 #[.slice A n c] w fun e w' => e = .returned (.bool true) ∧ Below w.heap.size w w' := by
  by_cases h : n ≤ 3000
  · exact fnMobius_main A n c xs w hK h
  · have hq : (decide (3000 < n) || decide (3000 < 0)) = true := by simp; omega
    have h1 := hK.2.1; have h2 := hK.2.2.1
    unfold maxLen at h2
    have hL := a2Long_any A none n c 0 0 w (by omega) (by omega)
    rw [hq] at hL
    have hL := hid hL
    clear hK h hq
    go_enter Try.func7, Try.ntmps7
    go_wp2_with (go_at_call 25; refine (hL.out).mono ?_; rintro e w' ⟨rfl, rfl⟩)
    go_ret
    exact ⟨rfl, (by repeat' (first | exact Below.refl _ _ | (with_reducible assumption) | (with_reducible refine Below.alloc ?_ ?_ _) | (with_reducible refine Below.setCell ?_ ?_ _) | (with_reducible refine Below.drew ?_) | (with_reducible refine below_drewN ?_ _) | (refine Below.trans ?_ (Below.mono (by assumption) ?_)) | (with_reducible exact Nat.le_refl _) | (with_reducible assumption) | (exact Below.size (by assumption)) | omega | go_size | (simp at *; omega)))⟩
end Go.Proofs.Ytegapfkmgfcolaa
