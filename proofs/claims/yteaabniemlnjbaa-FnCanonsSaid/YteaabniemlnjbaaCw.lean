/- The walk of the law FnCanons. -/
import Derived.Test.YteaabniemlnjbaaCc
import Derived.Test.YteaabniemlnjbaaDw
namespace Go.Proofs.Yteaabniemlnjbaa
open Go.RowKit
set_option linter.unusedVariables false

set_option maxRecDepth 100000 in
set_option maxHeartbeats 4000000 in
theorem fnCanons_main (w : World) (A : Option Addr) (n c : Nat) (xs : List Int) (hK : Came .u8 w A n c xs) (A' : Option Addr) (n' c' : Nat) (xs' : List Int) (hK' : Came .u8 w A' n' c' xs') (hl : n ≤ 3000) (hl' : n' ≤ 3000) :
    Calls Try.prog 14 #[.slice A n c, .slice A' n' c'] w fun e w' => e = .returned (.bool true) ∧ Below w.heap.size w w' := by
  have hq : (decide (3000 < n) || decide (3000 < n')) = false := by simp; omega
  have hL := a2Long_any A A' n c n' c' w (by omega) (by omega)
  rw [hq] at hL
  have hL := hid hL
  have hD := hid (A2Pattern_any A n c xs w (by omega) hK.bytes (Rd.of_came hK))
  have hAt := hid (fun (i k : Int) (w1 : World) (b : Below w.heap.size w w1) (h0 : 0 ≤ i) (h1 : 1 ≤ k) => a2At_any A' n' c' xs' i k w1 w (fun p hp => b.cell hp) hK' (by omega) h0 h1)
  clear hK hK' hq
  go_enter Try.func14, Try.ntmps14
  go_wp2_with (go_at_call 37; refine (hL.out).mono ?_; rintro e w' ⟨rfl, rfl⟩)
  refine hD.out.mono ?_
  rintro e w1 ⟨v1, rfl, ⟨p, hp, ho1⟩, hB⟩
  obtain ⟨A1, c1, rfl, _, hc1⟩ := own_form2 ho1
  obtain ⟨_, hn1, hn2⟩ := thOk_iff (okP_th hp)
  have hok := canP_ok hp
  have hcl := (thOk_iff (okP_th hok)).2.2
  have HP := hid hp
  have HOK := hid hok
  have HCC := hid (canP_can hp)
  clear hD hL hp hok
  go_wp2_with fail
  refine (CanonicalPattern_ok A1 p.length c1 p w1 HP.out (Rd.of_own ho1) hc1).mono ?_
  rintro e w2 ⟨v2, rfl, ho2, hb2⟩
  obtain ⟨A2, c2, rfl, _, hc2⟩ := own_form2 ho2
  have ho1 := own_below ho1 hb2
  replace hB := bchain hB hb2
  clear hb2
  have hC := CanonicalPattern_ok A2 (canP p).length c2 (canP p) w2 HOK.out (Rd.of_own ho2) hc2
  rw [HCC.out] at hC
  have hC := hid hC
  go_wp2_with fail
  refine hC.out.mono ?_
  clear hC
  rintro e w3 ⟨v3, rfl, ho3, hb3⟩
  obtain ⟨A3, c3, rfl⟩ := own_form ho3
  have ho1 := own_below ho1 hb3
  have ho2 := own_below ho2 hb3
  replace hB := bchain hB hb3
  clear hb3
  go_wp2_with fail
  refine (hAt.out 0 20 w3 hB (by omega) (by omega)).mono ?_
  rintro e w3 ⟨⟨k, k0, k1, rfl⟩, rfl⟩
  have HQ := hid (rotP_ok HP.out k)
  have HQC := hid (canP_rot HP.out k)
  have hC := specRotatePattern_ok A1 p.length c1 p k w3 (by omega) (by omega) HP.out (Rd.of_own ho1)
  rw [rotP_len] at hC
  have hC := hid hC
  go_wp2_with fail
  refine hC.out.mono ?_
  clear hC
  rintro e w4 ⟨v4, rfl, ho4, hb4⟩
  obtain ⟨A4, c4, rfl, _, hc4⟩ := own_form2 ho4
  have ho1 := own_below ho1 hb4
  have ho2 := own_below ho2 hb4
  have ho3 := own_below ho3 hb4
  replace hB := bchain hB hb4
  clear hb4
  have hC := CanonicalPattern_ok A4 p.length c4 (rotP p k) w4 HQ.out (Rd.of_own ho4) hc4
  rw [HQC.out] at hC
  have hC := hid hC
  go_wp2_with fail
  refine hC.out.mono ?_
  clear hC
  rintro e w5 ⟨v5, rfl, ho5, hb5⟩
  obtain ⟨A5, c5, rfl⟩ := own_form ho5
  have ho1 := own_below ho1 hb5
  have ho2 := own_below ho2 hb5
  have ho3 := own_below ho3 hb5
  have ho4 := own_below ho4 hb5
  replace hB := bchain hB hb5
  clear hb5
  have hC := specValidPattern_any A2 (canP p).length c2 (canP p) w5 (by omega) (Rd.of_own ho2)
  rw [HOK.out] at hC
  have hC := hid hC
  go_wp2_with fail
  refine hC.out.mono ?_
  clear hC
  rintro e w6 ⟨rfl, hb6⟩
  have ho1 := own_below ho1 hb6
  have ho2 := own_below ho2 hb6
  have ho3 := own_below ho3 hb6
  have ho4 := own_below ho4 hb6
  have ho5 := own_below ho5 hb6
  replace hB := bchain hB hb6
  clear hb6
  have hC := a2Same_any A3 A2 (canP p).length (canP p).length c3 c2 (canP p) (canP p) w6 (by omega) (by omega) (Rd.of_own ho3) (Rd.of_own ho2)
  rw [decide_eq_true rfl] at hC
  have hC := hid hC
  go_wp2_with fail
  refine hC.out.mono ?_
  clear hC
  rintro e w7 ⟨rfl, hb7⟩
  have ho1 := own_below ho1 hb7
  have ho2 := own_below ho2 hb7
  have ho4 := own_below ho4 hb7
  have ho5 := own_below ho5 hb7
  replace hB := bchain hB hb7
  clear hb7 ho3
  have hC := a2Same_any A5 A2 (canP p).length (canP p).length c5 c2 (canP p) (canP p) w7 (by omega) (by omega) (Rd.of_own ho5) (Rd.of_own ho2)
  rw [decide_eq_true rfl] at hC
  have hC := hid hC
  go_wp2_with fail
  refine hC.out.mono ?_
  clear hC
  rintro e w8 ⟨rfl, hb8⟩
  have ho1 := own_below ho1 hb8
  have ho2 := own_below ho2 hb8
  have ho4 := own_below ho4 hb8
  replace hB := bchain hB hb8
  clear hb8 ho5
  have hC := AlikePatterns_ok A1 A4 p.length p.length c1 c4 p (rotP p k) w8 HP.out (Rd.of_own ho1) hc1 HQ.out (Rd.of_own ho4) hc4
  rw [HQC.out, decide_eq_true rfl] at hC
  have hC := hid hC
  go_wp2_with fail
  refine hC.out.mono ?_
  clear hC
  rintro e w9 ⟨rfl, hb9⟩
  have ho1 := own_below ho1 hb9
  have ho2 := own_below ho2 hb9
  replace hB := bchain hB hb9
  clear hb9 ho4
  have hC := AlikePatterns_ok A1 A2 p.length (canP p).length c1 c2 p (canP p) w9 HP.out (Rd.of_own ho1) hc1 HOK.out (Rd.of_own ho2) hc2
  rw [HCC.out, decide_eq_true rfl] at hC
  have hC := hid hC
  go_wp2_with fail
  refine hC.out.mono ?_
  clear hC
  rintro e w10 ⟨rfl, hb10⟩
  have ho1 := own_below ho1 hb10
  replace hB := bchain hB hb10
  clear hb10 ho2
  go_wp2_with fail
  refine (hAt.out 1 4 w10 hB (by omega) (by omega)).mono ?_
  rintro e w10 ⟨⟨z, z0, z1, rfl⟩, rfl⟩
  obtain ⟨t, ht⟩ : ∃ t : Nat, 1 + z = (t : Int) := ⟨(1 + z).toNat, by omega⟩
  have ht1 : 1 ≤ t := by omega
  have ht4 : t ≤ 4 := by omega
  clear z0 z1
  obtain ⟨m, hm⟩ : ∃ m, t * p.length = m := ⟨_, rfl⟩
  have hmi : (t : Int) * (p.length : Int) = (m : Int) := by rw [← hm, Int.natCast_mul]
  have hmb : m ≤ 48 := by
    rw [← hm]
    have := Nat.mul_le_mul ht4 hn2
    omega
  have HM := hid hm
  clear hm
  by_cases htn : m ≤ 12
  · have HRL := hid (repP_len p t)
    have HRO := hid (repP_ok HP.out ht1 (by rw [HM.out]; exact htn))
    have HRC := hid (canP_rep HP.out ht1 (by rw [HM.out]; exact htn))
    have HRW := hid (winP_rep HP.out ht1 (by rw [HM.out]; exact htn))
    have HBO := hid (revP_ok HP.out)
    have HBB := hid (revP_rev HP.out)
    have hC := RepeatPattern_ok A1 p.length c1 p t w10 HP.out (Rd.of_own ho1) ht1 (by rw [HM.out]; exact htn)
    rw [HRL.out, HM.out] at hC
    have hC := hid hC
    go_wp2_with fail
    clear ht
    refine hC.out.mono ?_
    clear hC
    rintro e w11 ⟨v11, rfl, ho11, hb11⟩
    obtain ⟨A11, c11, rfl, _, hc11⟩ := own_form2 ho11
    have ho1 := own_below ho1 hb11
    replace hB := bchain hB hb11
    clear hb11
    have hwl := winP_len p 0
    have hrt := (rtN_spec hn1).2.2.1
    have HWL : Hid ((winP p 0).length ≤ 12) := by show _ ≤ _; omega
    have hC := RootPattern_ok A11 m c11 (repP p t) w11 HRO.out (Rd.of_own ho11) hc11
    rw [HRW.out] at hC
    have hC := hid hC
    clear hwl hrt
    go_wp2_with fail
    refine hC.out.mono ?_
    clear hC
    rintro e w12 ⟨v12, rfl, ho12, hb12⟩
    obtain ⟨A12, c12, rfl⟩ := own_form ho12
    have ho1 := own_below ho1 hb12
    have ho11 := own_below ho11 hb12
    replace hB := bchain hB hb12
    clear hb12
    have hC := hid (RootPattern_ok A1 p.length c1 p w12 HP.out (Rd.of_own ho1) hc1)
    go_wp2_with fail
    refine hC.out.mono ?_
    clear hC
    rintro e w13 ⟨v13, rfl, ho13, hb13⟩
    obtain ⟨A13, c13, rfl⟩ := own_form ho13
    have ho1 := own_below ho1 hb13
    have ho11 := own_below ho11 hb13
    have ho12 := own_below ho12 hb13
    replace hB := bchain hB hb13
    clear hb13
    have hC := specReversePattern_ok A1 p.length c1 p w13 HP.out (Rd.of_own ho1)
    rw [revP_len] at hC
    have hC := hid hC
    go_wp2_with fail
    refine hC.out.mono ?_
    clear hC
    rintro e w14 ⟨v14, rfl, ho14, hb14⟩
    obtain ⟨A14, c14, rfl, _, hc14⟩ := own_form2 ho14
    have ho1 := own_below ho1 hb14
    have ho11 := own_below ho11 hb14
    have ho12 := own_below ho12 hb14
    have ho13 := own_below ho13 hb14
    replace hB := bchain hB hb14
    clear hb14
    have hmm : ((m : Int) == (m : Int)) = true := by simp
    have hC := a2Same_any A12 A13 (winP p 0).length (winP p 0).length c12 c13 (winP p 0) (winP p 0) w14 (by have := HWL.out; omega) (by have := HWL.out; omega) (Rd.of_own ho12) (Rd.of_own ho13)
    rw [decide_eq_true rfl] at hC
    have hC := hid hC
    go_wp2_with fail
    refine hC.out.mono ?_
    clear hC
    rintro e w15 ⟨rfl, hb15⟩
    have ho1 := own_below ho1 hb15
    have ho11 := own_below ho11 hb15
    have ho14 := own_below ho14 hb15
    replace hB := bchain hB hb15
    clear hb15 ho12 ho13
    have hC := AlikePatterns_ok A11 A1 m p.length c11 c1 (repP p t) p w15 HRO.out (Rd.of_own ho11) hc11 HP.out (Rd.of_own ho1) hc1
    rw [HRC.out, decide_eq_true rfl] at hC
    have hC := hid hC
    go_wp2_with fail
    refine hC.out.mono ?_
    clear hC
    rintro e w16 ⟨rfl, hb16⟩
    have ho1 := own_below ho1 hb16
    have ho14 := own_below ho14 hb16
    replace hB := bchain hB hb16
    clear hb16 ho11
    obtain ⟨r, hr⟩ : ∃ r, decide (canP p = canP (revP p)) = r := ⟨_, rfl⟩
    have hr2 : decide (canP (revP p) = canP p) = r := by
      rw [← hr]
      exact decide_eq_decide.2 ⟨fun h => h.symm, fun h => h.symm⟩
    have hC := IsSymmetric_ok A1 p.length c1 p w16 HP.out (Rd.of_own ho1) hc1
    rw [hr] at hC
    have hC := hid hC
    have HR2 := hid hr2
    have hrr : (r == r) = true := by simp
    clear hr hr2
    go_wp2_with fail
    refine hC.out.mono ?_
    clear hC
    rintro e w17 ⟨rfl, hb17⟩
    have ho14 := own_below ho14 hb17
    replace hB := bchain hB hb17
    clear hb17 ho1
    have hC := IsSymmetric_ok A14 p.length c14 (revP p) w17 HBO.out (Rd.of_own ho14) hc14
    rw [HBB.out, HR2.out] at hC
    have hC := hid hC
    go_wp2_with fail
    refine hC.out.mono ?_
    clear hC
    rintro e w18 ⟨rfl, hb18⟩
    replace hB := bchain hB hb18
    go_wp2
    go_ret
    exact ⟨rfl, hB⟩
  · have hC := hid (RepeatPattern_no A1 p.length c1 p t w10 HP.out (Rd.of_own ho1) (by omega) (by rw [HM.out]; exact htn))
    have hgt : decide ((12 : Int) < (m : Int)) = true := by simp; omega
    go_wp2_with fail
    clear ht
    refine hC.out.mono ?_
    clear hC
    rintro e w11 ⟨rfl, hb11⟩
    replace hB := bchain hB hb11
    go_wp2
    go_ret
    exact ⟨rfl, hB⟩
set_option maxRecDepth 100000 in
theorem fnCanons_walk (w : World) (A : Option Addr) (n c : Nat) (xs : List Int) (hK : Came .u8 w A n c xs) (A' : Option Addr) (n' c' : Nat) (xs' : List Int) (hK' : Came .u8 w A' n' c' xs') :
    Calls Try.prog 14 #[.slice A n c, .slice A' n' c'] w fun e w' => e = .returned (.bool true) ∧ Below w.heap.size w w' := by
  by_cases h : n ≤ 3000 ∧ n' ≤ 3000
  · exact fnCanons_main w A n c xs hK A' n' c' xs' hK' h.1 h.2
  · have hq : (decide (3000 < n) || decide (3000 < n')) = true := by simp; omega
    have h1 := hK.2.1; have h2 := hK.2.2.1; have h3 := hK'.2.1; have h4 := hK'.2.2.1
    unfold maxLen at h2 h4
    have hL := a2Long_any A A' n c n' c' w (by omega) (by omega)
    rw [hq] at hL
    have hL := hid hL
    clear hK hK' h hq
    go_enter Try.func14, Try.ntmps14
    go_wp2_with (go_at_call 37; refine (hL.out).mono ?_; rintro e w' ⟨rfl, rfl⟩)
    go_ret
    exact ⟨rfl, (by repeat' (first | exact Below.refl _ _ | (with_reducible assumption) | (with_reducible refine Below.alloc ?_ ?_ _) | (with_reducible refine Below.setCell ?_ ?_ _) | (with_reducible refine Below.drew ?_) | (with_reducible refine below_drewN ?_ _) | (refine Below.trans ?_ (Below.mono (by assumption) ?_)) | (with_reducible exact Nat.le_refl _) | (with_reducible assumption) | (exact Below.size (by assumption)) | omega | go_size | (simp at *; omega)))⟩
end Go.Proofs.Yteaabniemlnjbaa
