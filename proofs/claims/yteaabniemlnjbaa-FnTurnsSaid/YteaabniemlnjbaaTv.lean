/- The walk of the law FnTurns. -/
import Derived.Test.YteaabniemlnjbaaTu
import Derived.Test.YteaabniemlnjbaaLa
import Derived.Test.YteaabniemlnjbaaDw
namespace Go.Proofs.Yteaabniemlnjbaa
open Go.RowKit
set_option linter.unusedVariables false

theorem same_list {p : List Int} : decide (p = p) = true := decide_eq_true rfl
theorem int_ne_self {x : Int} : (x != x) = false := by simp
set_option maxRecDepth 100000 in
set_option maxHeartbeats 2000000 in
theorem fnTurns_main (w : World) (A : Option Addr) (n c : Nat) (xs : List Int) (hK : Came .u8 w A n c xs) (A' : Option Addr) (n' c' : Nat) (xs' : List Int) (hK' : Came .u8 w A' n' c' xs') (hl : n ≤ 3000) (hl' : n' ≤ 3000) :
    Calls Try.prog 9 #[.slice A n c, .slice A' n' c'] w fun e w' => e = .returned (.bool true) ∧ Below w.heap.size w w' := by
  have hq : (decide (3000 < n) || decide (3000 < n')) = false := by simp; omega
  have hL := a2Long_any A A' n c n' c' w (by omega) (by omega)
  rw [hq] at hL
  have hL := hid hL
  have hD := hid (A2Pattern_any A n c xs w (by omega) hK.bytes (Rd.of_came hK))
  have hAt := hid (fun (i k : Int) (w1 : World) (b : Below w.heap.size w w1) (h0 : 0 ≤ i) (h1 : 1 ≤ k) => a2At_any A' n' c' xs' i k w1 w (fun p hp => b.cell hp) hK' (by omega) h0 h1)
  clear hK hK' hq
  go_enter Try.func9, Try.ntmps9
  go_wp2_with (go_at_call 37; refine (hL.out).mono ?_; rintro e w' ⟨rfl, rfl⟩)
  refine hD.out.mono ?_
  rintro e w1 ⟨v1, rfl, ⟨p, hp, ho1⟩, hB⟩
  obtain ⟨A1, c1, rfl⟩ := own_form ho1
  obtain ⟨hpb, hn1, hn2⟩ := thOk_iff (okP_th hp)
  have HP := hid hp
  have HPB := hid hpb
  clear hD hL hp hpb
  go_wp2_with fail
  refine (hAt.out 0 30 w1 hB (by omega) (by omega)).mono ?_
  rintro e w1 ⟨⟨d, d0, d1, rfl⟩, rfl⟩
  go_wp2_with fail
  refine (RotatePattern_ok A1 p.length c1 p d w1 (by omega) (by omega) HP.out (Rd.of_own ho1)).mono ?_
  rintro e w2 ⟨v2, rfl, ho2, hb2⟩
  rw [rotP_len] at ho2
  obtain ⟨A2, c2, rfl⟩ := own_form ho2
  have ho1 := own_below ho1 hb2
  replace hB := bchain hB hb2
  go_wp2_with fail
  refine (RotatePattern_ok A2 p.length c2 (rotP p d) (-d) w2 (by omega) (by omega) (rotP_ok HP.out d) (by exact (Rd.of_own ho2))).mono ?_
  rintro e w3 ⟨v3, rfl, ho3, hb3⟩
  rw [rotP_rot HP.out, show d + -d = 0 by omega, rotP_zero HP.out] at ho3
  obtain ⟨A3, c3, rfl⟩ := own_form ho3
  have ho1 := own_below ho1 hb3
  have ho2 := own_below ho2 hb3
  replace hB := bchain hB hb3
  go_wp2_with fail
  refine (ReversePattern_ok A1 p.length c1 p w3 HP.out (Rd.of_own ho1)).mono ?_
  rintro e w4 ⟨v4, rfl, ho4, hb4⟩
  rw [revP_len] at ho4
  obtain ⟨A4, c4, rfl⟩ := own_form ho4
  have ho1 := own_below ho1 hb4
  have ho2 := own_below ho2 hb4
  have ho3 := own_below ho3 hb4
  replace hB := bchain hB hb4
  go_wp2_with fail
  refine (ReversePattern_ok A4 p.length c4 (revP p) w4 (revP_ok HP.out) (Rd.of_own ho4)).mono ?_
  rintro e w5 ⟨v5, rfl, ho5, hb5⟩
  rw [revP_rev HP.out] at ho5
  obtain ⟨A5, c5, rfl⟩ := own_form ho5
  have ho1 := own_below ho1 hb5
  have ho2 := own_below ho2 hb5
  have ho3 := own_below ho3 hb5
  have ho4 := own_below ho4 hb5
  replace hB := bchain hB hb5
  clear hb2 hb3 hb4 hb5
  go_wp2_with fail
  have hC := a2Same_any A3 A1 p.length p.length c3 c1 p p w5 (by omega) (by omega) (Rd.of_own ho3) (Rd.of_own ho1)
  rw [same_list] at hC
  refine hC.mono ?_
  clear hC
  rintro e w6 ⟨rfl, hb6⟩
  have ho1 := own_below ho1 hb6
  have ho2 := own_below ho2 hb6
  have ho4 := own_below ho4 hb6
  have ho5 := own_below ho5 hb6
  replace hB := bchain hB hb6
  clear ho3 hb6
  go_wp2_with fail
  have hC := a2Same_any A5 A1 p.length p.length c5 c1 p p w6 (by omega) (by omega) (Rd.of_own ho5) (Rd.of_own ho1)
  rw [same_list] at hC
  refine hC.mono ?_
  clear hC
  rintro e w7 ⟨rfl, hb7⟩
  have ho1 := own_below ho1 hb7
  have ho2 := own_below ho2 hb7
  have ho4 := own_below ho4 hb7
  replace hB := bchain hB hb7
  clear ho5 hb7
  go_wp2_with fail
  have hC := specValidPattern_any A4 p.length c4 (revP p) w7 (by omega) (Rd.of_own ho4)
  rw [revP_ok HP.out] at hC
  refine hC.mono ?_
  clear hC
  rintro e w8 ⟨rfl, hb8⟩
  have ho1 := own_below ho1 hb8
  have ho2 := own_below ho2 hb8
  have ho4 := own_below ho4 hb8
  replace hB := bchain hB hb8
  clear hb8
  have HS := hid (fun (A9 : Option Addr) (c9 : Nat) (q : List Int) (w9 : World) (hq : thOk q = true) (hr : Rd w9 w9.heap.size 1 A9 p.length (ints q)) => a2Sum_any A9 p.length c9 q w9 (by omega) (fun x hx => by have := (thOk_iff hq).1 x hx; omega) hr)
  have hC4 := HS.out A4 c4 (revP p) w8 (okP_th (revP_ok HP.out)) (Rd.of_own ho4)
  rw [revP_sum HP.out] at hC4
  have hC2 := HS.out A2 c2 (rotP p d) w8 (okP_th (rotP_ok HP.out d)) (Rd.of_own ho2)
  rw [rotP_sum HP.out] at hC2
  have hC1 := HS.out A1 c1 p w8 (okP_th HP.out) (Rd.of_own ho1)
  obtain ⟨S, hS⟩ : ∃ S, sumL p = S := ⟨_, rfl⟩
  rw [hS] at hC4 hC2 hC1
  have HC4 := hid hC4
  have HC2 := hid hC2
  have HC1 := hid hC1
  have HSS := hid hS
  have hSne : (S != S) = false := int_ne_self
  clear hC4 hC2 hC1 hS
  go_wp2_with fail
  refine HC4.out.mono ?_
  rintro e w' ⟨rfl, rfl⟩
  go_wp2_with fail
  refine HC1.out.mono ?_
  rintro e w' ⟨rfl, rfl⟩
  go_wp2_with fail
  refine HC2.out.mono ?_
  rintro e w' ⟨rfl, rfl⟩
  go_wp2_with fail
  refine HC1.out.mono ?_
  rintro e w' ⟨rfl, rfl⟩
  clear HC4 HC2 ho2 ho4
  go_wp2_with fail
  refine (hAt.out 1 (p.length : Int) w8 hB (by omega) (by omega)).mono ?_
  rintro e w8 ⟨⟨i, i0, i1, rfl⟩, rfl⟩
  go_wp2_with fail
  refine (hAt.out 2 (p.length : Int) w8 hB (by omega) (by omega)).mono ?_
  rintro e w8 ⟨⟨k, k0, k1, rfl⟩, rfl⟩
  obtain ⟨i, rfl⟩ := Int.eq_ofNat_of_zero_le i0
  obtain ⟨k, rfl⟩ := Int.eq_ofNat_of_zero_le k0
  have hi : i < p.length := by omega
  have hk : k < p.length := by omega
  go_wp2_with fail
  refine (SwapLandings_ok A1 p.length c1 p i k w8 hi hk HP.out (Rd.of_own ho1)).mono ?_
  rintro e w9 ⟨hb9, hres⟩
  have ho1 := own_below ho1 hb9
  replace hB := bchain hB hb9
  clear hb9
  rcases hres with ⟨hth, v9, rfl, ho9⟩ | ⟨hth, rfl⟩
  · have hokq := swapP_ok HP.out hi hk hth
    have hsq := swapP_sum hi hk (p := p)
    have hss := swapP_swap hi hk (p := p)
    rw [swapP_len] at ho9
    obtain ⟨A9, c9, rfl⟩ := own_form ho9
    have hC := SwapLandings_ok A9 p.length c9 (swapP p i k) i k w9 hi hk hokq (Rd.of_own ho9)
    rw [hss] at hC
    have hC := hid hC
    have HO := hid hokq
    have HQ := hid hsq
    clear hth hokq hsq hss
    go_wp2_with fail
    refine hC.out.mono ?_
    rintro e w10 ⟨hb10, hres⟩
    rcases hres with ⟨_, v10, rfl, ho10⟩ | ⟨hth, _⟩
    · obtain ⟨A10, c10, rfl⟩ := own_form ho10
      have ho1 := own_below ho1 hb10
      have ho9 := own_below ho9 hb10
      replace hB := bchain hB hb10
      clear hb10 hC
      go_wp2_with fail
      have hC := specValidPattern_any A9 p.length c9 (swapP p i k) w10 (by omega) (Rd.of_own ho9)
      rw [HO.out] at hC
      refine hC.mono ?_
      clear hC
      rintro e w11 ⟨rfl, hb11⟩
      have ho1 := own_below ho1 hb11
      have ho9 := own_below ho9 hb11
      have ho10 := own_below ho10 hb11
      replace hB := bchain hB hb11
      clear hb11
      have hC9 := HS.out A9 c9 (swapP p i k) w11 (okP_th HO.out) (Rd.of_own ho9)
      rw [HQ.out, HSS.out] at hC9
      have hC1 := HS.out A1 c1 p w11 (okP_th HP.out) (Rd.of_own ho1)
      rw [HSS.out] at hC1
      have HC9 := hid hC9
      have HC1 := hid hC1
      have hSeq : (S == S) = true := by simp
      clear hC9 hC1
      go_wp2_with fail
      refine HC9.out.mono ?_
      rintro e w' ⟨rfl, rfl⟩
      go_wp2_with fail
      refine HC1.out.mono ?_
      rintro e w' ⟨rfl, rfl⟩
      go_wp2_with fail
      have hC := a2Same_any A10 A1 p.length p.length c10 c1 p p w11 (by omega) (by omega) (Rd.of_own ho10) (Rd.of_own ho1)
      rw [same_list] at hC
      refine hC.mono ?_
      clear hC
      rintro e w12 ⟨rfl, hb12⟩
      replace hB := bchain hB hb12
      go_wp2
      go_ret
      exact ⟨rfl, hB⟩
    · exact absurd (okP_th HP.out) (by rw [hth]; decide)
  · have hne : (i : Int) ≠ (k : Int) := by
      intro e
      have e : i = k := by omega
      subst e
      rw [swapP_self hi, okP_th HP.out] at hth
      cases hth
    have hne : ((i : Int) != (k : Int)) = true := by simpa using hne
    clear hth
    go_wp2
    go_ret
    exact ⟨rfl, hB⟩
theorem fnTurns_walk (w : World) (A : Option Addr) (n c : Nat) (xs : List Int) (hK : Came .u8 w A n c xs) (A' : Option Addr) (n' c' : Nat) (xs' : List Int) (hK' : Came .u8 w A' n' c' xs') :
    Calls Try.prog 9 #[.slice A n c, .slice A' n' c'] w fun e w' => e = .returned (.bool true) ∧ Below w.heap.size w w' := by
  by_cases h : n ≤ 3000 ∧ n' ≤ 3000
  · exact fnTurns_main w A n c xs hK A' n' c' xs' hK' h.1 h.2
  · have hq : (decide (3000 < n) || decide (3000 < n')) = true := by simp; omega
    have h1 := hK.2.1; have h2 := hK.2.2.1; have h3 := hK'.2.1; have h4 := hK'.2.2.1
    unfold maxLen at h2 h4
    have hL := a2Long_any A A' n c n' c' w (by omega) (by omega)
    rw [hq] at hL
    have hL := hid hL
    clear hK hK' h hq
    go_enter Try.func9, Try.ntmps9
    go_wp2_with (go_at_call 37; refine (hL.out).mono ?_; rintro e w' ⟨rfl, rfl⟩)
    go_ret
    exact ⟨rfl, (by repeat' (first | exact Below.refl _ _ | (with_reducible assumption) | (with_reducible refine Below.alloc ?_ ?_ _) | (with_reducible refine Below.setCell ?_ ?_ _) | (with_reducible refine Below.drew ?_) | (with_reducible refine below_drewN ?_ _) | (refine Below.trans ?_ (Below.mono (by assumption) ?_)) | (with_reducible exact Nat.le_refl _) | (with_reducible assumption) | (exact Below.size (by assumption)) | omega | go_size | (simp at *; omega)))⟩
end Go.Proofs.Yteaabniemlnjbaa
