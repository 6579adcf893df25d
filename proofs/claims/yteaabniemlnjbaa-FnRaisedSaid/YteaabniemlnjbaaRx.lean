/- The walk of the law FnRaised. -/
import Derived.Test.YteaabniemlnjbaaPx
import Derived.Test.YteaabniemlnjbaaLa
import Derived.Test.YteaabniemlnjbaaDw
namespace Go.Proofs.Yteaabniemlnjbaa
open Go.RowKit
set_option linter.unusedVariables false

set_option maxRecDepth 100000 in
set_option maxHeartbeats 4000000 in
theorem fnRaised_main (w : World) (A : Option Addr) (n c : Nat) (xs : List Int) (hK : Came .u8 w A n c xs) (A' : Option Addr) (n' c' : Nat) (xs' : List Int) (hK' : Came .u8 w A' n' c' xs') (hl : n ≤ 3000) (hl' : n' ≤ 3000) :
    Calls Try.prog 10 #[.slice A n c, .slice A' n' c'] w fun e w' => e = .returned (.bool true) ∧ Below w.heap.size w w' := by
  have hq : (decide (3000 < n) || decide (3000 < n')) = false := by simp; omega
  have hL := a2Long_any A A' n c n' c' w (by omega) (by omega)
  rw [hq] at hL
  have hL := hid hL
  have hD := hid (A2Pattern_any A n c xs w (by omega) hK.bytes (Rd.of_came hK))
  have hAt := hid (fun (i k : Int) (w1 : World) (b : Below w.heap.size w w1) (h0 : 0 ≤ i) (h1 : 1 ≤ k) => a2At_any A' n' c' xs' i k w1 w (fun p hp => b.cell hp) hK' (by omega) h0 h1)
  clear hK hK' hq
  go_enter Try.func10, Try.ntmps10
  go_wp2_with (go_at_call 37; refine (hL.out).mono ?_; rintro e w' ⟨rfl, rfl⟩)
  refine hD.out.mono ?_
  rintro e w1 ⟨v1, rfl, ⟨p, hp, ho1⟩, hB⟩
  obtain ⟨A1, c1, rfl⟩ := own_form ho1
  obtain ⟨hpb, hn1, hn2⟩ := thOk_iff (okP_th hp)
  have hPb := prN_bd hp
  have hHb := hiT_bd (okP_th hp)
  obtain ⟨X, hX⟩ : ∃ X, prN p = X := ⟨_, rfl⟩
  obtain ⟨H, hH⟩ : ∃ H, hiT p = H := ⟨_, rfl⟩
  rw [hX, hH] at hPb
  rw [hH] at hHb
  obtain ⟨hX0, hX1⟩ := hPb
  obtain ⟨hH0, hH1⟩ := hHb
  have HX := hid hX
  have HH := hid hH
  have HP := hid hp
  have HPB := hid hpb
  clear hD hL hp hpb hX hH
  go_wp2_with fail
  have hC := specPropsOf_ok A1 p.length c1 p w1 HP.out (Rd.of_own ho1)
  rw [HX.out] at hC
  refine hC.mono ?_
  clear hC
  rintro e w2 ⟨rfl, hb2⟩
  have ho1 := own_below ho1 hb2
  replace hB := bchain hB hb2
  clear hb2
  go_wp2_with fail
  have hC := specHighestOf_ok A1 p.length c1 p w2 HP.out (Rd.of_own ho1)
  rw [HH.out] at hC
  refine hC.mono ?_
  clear hC
  rintro e w3 ⟨rfl, hb3⟩
  have ho1 := own_below ho1 hb3
  replace hB := bchain hB hb3
  clear hb3
  go_wp2_with fail
  refine (hAt.out 0 (p.length : Int) w3 hB (by omega) (by omega)).mono ?_
  rintro e w3 ⟨⟨i, i0, i1, rfl⟩, rfl⟩
  obtain ⟨i, rfl⟩ := Int.eq_ofNat_of_zero_le i0
  have hi : i < p.length := by omega
  obtain ⟨x, hx⟩ : ∃ x, p.getD i 0 = x := ⟨_, rfl⟩
  have hxb := getD_bd (okP_th HP.out) i
  rw [hx] at hxb
  obtain ⟨x0, x1⟩ := hxb
  have HXI := hid hx
  have hne1 : (X + 1 != X + 1) = false := by simp
  clear hx
  by_cases hlt : x + (p.length : Int) ≤ 15
  · go_wp2_with fail
    have hC := RaiseThrow_ok A1 p.length c1 p i w3 hi HP.out (Rd.of_own ho1) (by rw [HXI.out]; omega)
    rw [raiseP_len] at hC
    refine hC.mono ?_
    clear hC
    rintro e w4 ⟨v4, rfl, ho4, hb4⟩
    obtain ⟨A4, c4, rfl⟩ := own_form ho4
    have ho1 := own_below ho1 hb4
    replace hB := bchain hB hb4
    clear hb4
    have hrl := raiseP_len p i
    have hC := specPropsOf_ok A4 p.length c4 (raiseP p i) w4 (raiseP_ok HP.out hi (by rw [HXI.out]; omega)) (Rd.of_own ho4)
    rw [raiseP_props HP.out hi, HX.out] at hC
    have hC := hid hC
    clear hrl
    go_wp2_with fail
    refine hC.out.mono ?_
    clear hC
    rintro e w5 ⟨rfl, hb5⟩
    have ho1 := own_below ho1 hb5
    replace hB := bchain hB hb5
    clear hb5 ho4
    go_wp2_with fail
    refine (hAt.out 1 7 w5 hB (by omega) (by omega)).mono ?_
    rintro e w5 ⟨⟨y, y0, y1, rfl⟩, rfl⟩
    go_wp2_with fail
    refine (ShiftThrows_ok A1 p.length c1 p (y - 3) w5 (by omega) (by omega) HP.out (Rd.of_own ho1)).mono ?_
    rintro e w6 ⟨hb6, hres⟩
    have ho1 := own_below ho1 hb6
    replace hB := bchain hB hb6
    clear hb6
    have hne2 : (X + (y - 3) != X + (y - 3)) = false := by simp
    rcases hres with ⟨hth, v6, rfl, ho6⟩ | ⟨hth, rfl⟩
    · have hok6 := hid (shiftP_ok HP.out hth)
      have hpr6 := hid (shiftP_props HP.out (y - 3))
      rw [shiftP_len] at ho6
      obtain ⟨A6, c6, rfl⟩ := own_form ho6
      clear hth
      have hC := specPropsOf_ok A6 p.length c6 (shiftP p (y - 3)) w6 hok6.out (Rd.of_own ho6)
      rw [hpr6.out, HX.out] at hC
      have hC := hid hC
      go_wp2_with fail
      refine hC.out.mono ?_
      clear hC
      rintro e w7 ⟨rfl, hb7⟩
      have ho1 := own_below ho1 hb7
      replace hB := bchain hB hb7
      clear hb7 ho6 hok6 hpr6
      go_wp2_with fail
      refine (hAt.out 2 3 w7 hB (by omega) (by omega)).mono ?_
      rintro e w7 ⟨⟨z, z0, z1, rfl⟩, rfl⟩
      have hHz : H + z ≤ 17 := by omega
      by_cases hh : H + z ≤ 15
      · go_wp2_with fail
        have hC := DualPattern_ok A1 p.length c1 p (H + z) w7 (by rw [HH.out]; omega) hh HP.out (Rd.of_own ho1)
        rw [dualP_len] at hC
        refine hC.mono ?_
        clear hC
        rintro e w8 ⟨v8, rfl, ho8, hb8⟩
        obtain ⟨A8, c8, rfl⟩ := own_form ho8
        have ho1 := own_below ho1 hb8
        replace hB := bchain hB hb8
        clear hb8
        have hok8 := hid (dualP_ok HP.out (H := H + z) (by rw [HH.out]; omega) hh)
        have hC := DualPattern_ok A8 p.length c8 (dualP p (H + z)) (H + z) w8 (dualP_hi HP.out (by rw [HH.out]; omega)) hh hok8.out (Rd.of_own ho8)
        rw [dualP_dual HP.out (by rw [HH.out]; omega) hh] at hC
        have hC := hid hC
        go_wp2_with fail
        refine hC.out.mono ?_
        clear hC
        rintro e w9 ⟨v9, rfl, ho9, hb9⟩
        obtain ⟨A9, c9, rfl⟩ := own_form ho9
        have ho1 := own_below ho1 hb9
        have ho8 := own_below ho8 hb9
        replace hB := bchain hB hb9
        clear hb9
        have hC := specPropsOf_ok A8 p.length c8 (dualP p (H + z)) w9 hok8.out (Rd.of_own ho8)
        rw [dualP_props HP.out (by rw [HH.out]; omega) hh, HX.out] at hC
        have hC := hid hC
        have heq : (H + z - X == H + z - X) = true := by simp
        go_wp2_with fail
        refine hC.out.mono ?_
        clear hC
        rintro e w10 ⟨rfl, hb10⟩
        have ho1 := own_below ho1 hb10
        have ho9 := own_below ho9 hb10
        replace hB := bchain hB hb10
        clear hb10 ho8
        have hC := a2Same_any A9 A1 p.length p.length c9 c1 p p w10 (by omega) (by omega) (Rd.of_own ho9) (Rd.of_own ho1)
        rw [decide_eq_true rfl] at hC
        have hC := hid hC
        go_wp2_with fail
        refine hC.out.mono ?_
        clear hC
        rintro e w11 ⟨rfl, hb11⟩
        replace hB := bchain hB hb11
        go_wp2
        go_ret
        exact ⟨rfl, hB⟩
      · go_wp2_with fail
        refine (DualPattern_no A1 p.length c1 p (H + z) w7 (by omega) (by omega) HP.out (Rd.of_own ho1)).mono ?_
        rintro e w8 ⟨rfl, hb8⟩
        replace hB := bchain hB hb8
        go_wp2
        go_ret
        exact ⟨rfl, hB⟩
    · clear hth
      go_wp2_with fail
      refine (hAt.out 2 3 w6 hB (by omega) (by omega)).mono ?_
      rintro e w6 ⟨⟨z, z0, z1, rfl⟩, rfl⟩
      have hHz : H + z ≤ 17 := by omega
      by_cases hh : H + z ≤ 15
      · go_wp2_with fail
        have hC := DualPattern_ok A1 p.length c1 p (H + z) w6 (by rw [HH.out]; omega) hh HP.out (Rd.of_own ho1)
        rw [dualP_len] at hC
        refine hC.mono ?_
        clear hC
        rintro e w8 ⟨v8, rfl, ho8, hb8⟩
        obtain ⟨A8, c8, rfl⟩ := own_form ho8
        have ho1 := own_below ho1 hb8
        replace hB := bchain hB hb8
        clear hb8
        have hok8 := hid (dualP_ok HP.out (H := H + z) (by rw [HH.out]; omega) hh)
        have hC := DualPattern_ok A8 p.length c8 (dualP p (H + z)) (H + z) w8 (dualP_hi HP.out (by rw [HH.out]; omega)) hh hok8.out (Rd.of_own ho8)
        rw [dualP_dual HP.out (by rw [HH.out]; omega) hh] at hC
        have hC := hid hC
        go_wp2_with fail
        refine hC.out.mono ?_
        clear hC
        rintro e w9 ⟨v9, rfl, ho9, hb9⟩
        obtain ⟨A9, c9, rfl⟩ := own_form ho9
        have ho1 := own_below ho1 hb9
        have ho8 := own_below ho8 hb9
        replace hB := bchain hB hb9
        clear hb9
        have hC := specPropsOf_ok A8 p.length c8 (dualP p (H + z)) w9 hok8.out (Rd.of_own ho8)
        rw [dualP_props HP.out (by rw [HH.out]; omega) hh, HX.out] at hC
        have hC := hid hC
        have heq : (H + z - X == H + z - X) = true := by simp
        go_wp2_with fail
        refine hC.out.mono ?_
        clear hC
        rintro e w10 ⟨rfl, hb10⟩
        have ho1 := own_below ho1 hb10
        have ho9 := own_below ho9 hb10
        replace hB := bchain hB hb10
        clear hb10 ho8
        have hC := a2Same_any A9 A1 p.length p.length c9 c1 p p w10 (by omega) (by omega) (Rd.of_own ho9) (Rd.of_own ho1)
        rw [decide_eq_true rfl] at hC
        have hC := hid hC
        go_wp2_with fail
        refine hC.out.mono ?_
        clear hC
        rintro e w11 ⟨rfl, hb11⟩
        replace hB := bchain hB hb11
        go_wp2
        go_ret
        exact ⟨rfl, hB⟩
      · go_wp2_with fail
        refine (DualPattern_no A1 p.length c1 p (H + z) w6 (by omega) (by omega) HP.out (Rd.of_own ho1)).mono ?_
        rintro e w8 ⟨rfl, hb8⟩
        replace hB := bchain hB hb8
        go_wp2
        go_ret
        exact ⟨rfl, hB⟩
  · go_wp2_with fail
    have hC := RaiseThrow_no A1 p.length c1 p i w3 hi HP.out (Rd.of_own ho1) (by rw [HXI.out]; omega)
    refine hC.mono ?_
    clear hC
    rintro e w5 ⟨rfl, hb4⟩
    have ho1 := own_below ho1 hb4
    replace hB := bchain hB hb4
    clear hb4
    obtain ⟨g1, off1, x', hAe, _, hx', _, hcx⟩ := (Rd.of_own ho1).at_ hi
    subst hAe
    have hxx : x' = x := by have := HXI.out; rw [List.getD_eq_getElem?_getD, hx'] at this; exact this
    subst hxx
    clear hx'
    go_wp2_with fail
    refine (hAt.out 1 7 w5 hB (by omega) (by omega)).mono ?_
    rintro e w5 ⟨⟨y, y0, y1, rfl⟩, rfl⟩
    go_wp2_with fail
    refine (ShiftThrows_ok (some ⟨g1, off1, none⟩) p.length c1 p (y - 3) w5 (by omega) (by omega) HP.out (Rd.of_own ho1)).mono ?_
    rintro e w6 ⟨hb6, hres⟩
    have ho1 := own_below ho1 hb6
    replace hB := bchain hB hb6
    clear hb6
    have hne2 : (X + (y - 3) != X + (y - 3)) = false := by simp
    rcases hres with ⟨hth, v6, rfl, ho6⟩ | ⟨hth, rfl⟩
    · have hok6 := hid (shiftP_ok HP.out hth)
      have hpr6 := hid (shiftP_props HP.out (y - 3))
      rw [shiftP_len] at ho6
      obtain ⟨A6, c6, rfl⟩ := own_form ho6
      clear hth
      have hC := specPropsOf_ok A6 p.length c6 (shiftP p (y - 3)) w6 hok6.out (Rd.of_own ho6)
      rw [hpr6.out, HX.out] at hC
      have hC := hid hC
      go_wp2_with fail
      refine hC.out.mono ?_
      clear hC
      rintro e w7 ⟨rfl, hb7⟩
      have ho1 := own_below ho1 hb7
      replace hB := bchain hB hb7
      clear hb7 ho6 hok6 hpr6
      go_wp2_with fail
      refine (hAt.out 2 3 w7 hB (by omega) (by omega)).mono ?_
      rintro e w7 ⟨⟨z, z0, z1, rfl⟩, rfl⟩
      have hHz : H + z ≤ 17 := by omega
      by_cases hh : H + z ≤ 15
      · go_wp2_with fail
        have hC := DualPattern_ok (some ⟨g1, off1, none⟩) p.length c1 p (H + z) w7 (by rw [HH.out]; omega) hh HP.out (Rd.of_own ho1)
        rw [dualP_len] at hC
        refine hC.mono ?_
        clear hC
        rintro e w8 ⟨v8, rfl, ho8, hb8⟩
        obtain ⟨A8, c8, rfl⟩ := own_form ho8
        have ho1 := own_below ho1 hb8
        replace hB := bchain hB hb8
        clear hb8
        have hok8 := hid (dualP_ok HP.out (H := H + z) (by rw [HH.out]; omega) hh)
        have hC := DualPattern_ok A8 p.length c8 (dualP p (H + z)) (H + z) w8 (dualP_hi HP.out (by rw [HH.out]; omega)) hh hok8.out (Rd.of_own ho8)
        rw [dualP_dual HP.out (by rw [HH.out]; omega) hh] at hC
        have hC := hid hC
        go_wp2_with fail
        refine hC.out.mono ?_
        clear hC
        rintro e w9 ⟨v9, rfl, ho9, hb9⟩
        obtain ⟨A9, c9, rfl⟩ := own_form ho9
        have ho1 := own_below ho1 hb9
        have ho8 := own_below ho8 hb9
        replace hB := bchain hB hb9
        clear hb9
        have hC := specPropsOf_ok A8 p.length c8 (dualP p (H + z)) w9 hok8.out (Rd.of_own ho8)
        rw [dualP_props HP.out (by rw [HH.out]; omega) hh, HX.out] at hC
        have hC := hid hC
        have heq : (H + z - X == H + z - X) = true := by simp
        go_wp2_with fail
        refine hC.out.mono ?_
        clear hC
        rintro e w10 ⟨rfl, hb10⟩
        have ho1 := own_below ho1 hb10
        have ho9 := own_below ho9 hb10
        replace hB := bchain hB hb10
        clear hb10 ho8
        have hC := a2Same_any A9 (some ⟨g1, off1, none⟩) p.length p.length c9 c1 p p w10 (by omega) (by omega) (Rd.of_own ho9) (Rd.of_own ho1)
        rw [decide_eq_true rfl] at hC
        have hC := hid hC
        go_wp2_with fail
        refine hC.out.mono ?_
        clear hC
        rintro e w11 ⟨rfl, hb11⟩
        replace hB := bchain hB hb11
        go_wp2
        go_ret
        exact ⟨rfl, hB⟩
      · go_wp2_with fail
        refine (DualPattern_no (some ⟨g1, off1, none⟩) p.length c1 p (H + z) w7 (by omega) (by omega) HP.out (Rd.of_own ho1)).mono ?_
        rintro e w8 ⟨rfl, hb8⟩
        replace hB := bchain hB hb8
        go_wp2
        go_ret
        exact ⟨rfl, hB⟩
    · clear hth
      go_wp2_with fail
      refine (hAt.out 2 3 w6 hB (by omega) (by omega)).mono ?_
      rintro e w6 ⟨⟨z, z0, z1, rfl⟩, rfl⟩
      have hHz : H + z ≤ 17 := by omega
      by_cases hh : H + z ≤ 15
      · go_wp2_with fail
        have hC := DualPattern_ok (some ⟨g1, off1, none⟩) p.length c1 p (H + z) w6 (by rw [HH.out]; omega) hh HP.out (Rd.of_own ho1)
        rw [dualP_len] at hC
        refine hC.mono ?_
        clear hC
        rintro e w8 ⟨v8, rfl, ho8, hb8⟩
        obtain ⟨A8, c8, rfl⟩ := own_form ho8
        have ho1 := own_below ho1 hb8
        replace hB := bchain hB hb8
        clear hb8
        have hok8 := hid (dualP_ok HP.out (H := H + z) (by rw [HH.out]; omega) hh)
        have hC := DualPattern_ok A8 p.length c8 (dualP p (H + z)) (H + z) w8 (dualP_hi HP.out (by rw [HH.out]; omega)) hh hok8.out (Rd.of_own ho8)
        rw [dualP_dual HP.out (by rw [HH.out]; omega) hh] at hC
        have hC := hid hC
        go_wp2_with fail
        refine hC.out.mono ?_
        clear hC
        rintro e w9 ⟨v9, rfl, ho9, hb9⟩
        obtain ⟨A9, c9, rfl⟩ := own_form ho9
        have ho1 := own_below ho1 hb9
        have ho8 := own_below ho8 hb9
        replace hB := bchain hB hb9
        clear hb9
        have hC := specPropsOf_ok A8 p.length c8 (dualP p (H + z)) w9 hok8.out (Rd.of_own ho8)
        rw [dualP_props HP.out (by rw [HH.out]; omega) hh, HX.out] at hC
        have hC := hid hC
        have heq : (H + z - X == H + z - X) = true := by simp
        go_wp2_with fail
        refine hC.out.mono ?_
        clear hC
        rintro e w10 ⟨rfl, hb10⟩
        have ho1 := own_below ho1 hb10
        have ho9 := own_below ho9 hb10
        replace hB := bchain hB hb10
        clear hb10 ho8
        have hC := a2Same_any A9 (some ⟨g1, off1, none⟩) p.length p.length c9 c1 p p w10 (by omega) (by omega) (Rd.of_own ho9) (Rd.of_own ho1)
        rw [decide_eq_true rfl] at hC
        have hC := hid hC
        go_wp2_with fail
        refine hC.out.mono ?_
        clear hC
        rintro e w11 ⟨rfl, hb11⟩
        replace hB := bchain hB hb11
        go_wp2
        go_ret
        exact ⟨rfl, hB⟩
      · go_wp2_with fail
        refine (DualPattern_no (some ⟨g1, off1, none⟩) p.length c1 p (H + z) w6 (by omega) (by omega) HP.out (Rd.of_own ho1)).mono ?_
        rintro e w8 ⟨rfl, hb8⟩
        replace hB := bchain hB hb8
        go_wp2
        go_ret
        exact ⟨rfl, hB⟩
theorem fnRaised_walk (w : World) (A : Option Addr) (n c : Nat) (xs : List Int) (hK : Came .u8 w A n c xs) (A' : Option Addr) (n' c' : Nat) (xs' : List Int) (hK' : Came .u8 w A' n' c' xs') :
    Calls Try.prog 10 #[.slice A n c, .slice A' n' c'] w fun e w' => e = .returned (.bool true) ∧ Below w.heap.size w w' := by
  by_cases h : n ≤ 3000 ∧ n' ≤ 3000
  · exact fnRaised_main w A n c xs hK A' n' c' xs' hK' h.1 h.2
  · have hq : (decide (3000 < n) || decide (3000 < n')) = true := by simp; omega
    have h1 := hK.2.1; have h2 := hK.2.2.1; have h3 := hK'.2.1; have h4 := hK'.2.2.1
    unfold maxLen at h2 h4
    have hL := a2Long_any A A' n c n' c' w (by omega) (by omega)
    rw [hq] at hL
    have hL := hid hL
    clear hK hK' h hq
    go_enter Try.func10, Try.ntmps10
    go_wp2_with (go_at_call 37; refine (hL.out).mono ?_; rintro e w' ⟨rfl, rfl⟩)
    go_ret
    exact ⟨rfl, (by repeat' (first | exact Below.refl _ _ | (with_reducible assumption) | (with_reducible refine Below.alloc ?_ ?_ _) | (with_reducible refine Below.setCell ?_ ?_ _) | (with_reducible refine Below.drew ?_) | (with_reducible refine below_drewN ?_ _) | (refine Below.trans ?_ (Below.mono (by assumption) ?_)) | (with_reducible exact Nat.le_refl _) | (with_reducible assumption) | (exact Below.size (by assumption)) | omega | go_size | (simp at *; omega)))⟩
end Go.Proofs.Yteaabniemlnjbaa
