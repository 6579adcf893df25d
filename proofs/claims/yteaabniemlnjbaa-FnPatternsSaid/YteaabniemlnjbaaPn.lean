/- The walk of the law FnPatterns. -/
import Derived.Test.YteaabniemlnjbaaPx
import Derived.Test.YteaabniemlnjbaaLa
import Derived.Test.YteaabniemlnjbaaDw
import Derived.Test.YteaabniemlnjbaaPt
import Derived.Test.YteaabniemlnjbaaOp
namespace Go.Proofs.Yteaabniemlnjbaa
open Go.RowKit
set_option linter.unusedVariables false

theorem inf_bl : (Try.prog.info? 4).map (fun i => (i.zero, i.size, i.bytes)) = some (some (.bool false), 1, 1) := by kernel_rfl
theorem okP_coll {p : List Int} (h : okP p = true) : rCollisionOf p = (-1, -1, 0) := by
  have h1 := okP_th h
  unfold okP at h
  rw [h1, Bool.true_and] at h
  rw [rCollisionOf, if_pos h1]
  cases hc : colP p with
  | none => rfl
  | some x => rw [hc] at h; cases h
set_option maxRecDepth 100000 in
set_option maxHeartbeats 4000000 in
theorem fnPatterns_main (w : World) (A : Option Addr) (n c : Nat) (xs : List Int) (hK : Came .u8 w A n c xs) (A' : Option Addr) (n' c' : Nat) (xs' : List Int) (hK' : Came .u8 w A' n' c' xs') (hl : n ≤ 3000) (hl' : n' ≤ 3000) :
    Calls Try.prog 13 #[.slice A n c, .slice A' n' c'] w fun e w' => e = .returned (.bool true) ∧ Below w.heap.size w w' := by
  have hq : (decide (3000 < n) || decide (3000 < n')) = false := by simp; omega
  have hL := a2Long_any A A' n c n' c' w (by omega) (by omega)
  rw [hq] at hL
  have hL := hid hL
  have hD := hid (A2Pattern_any A n c xs w (by omega) hK.bytes (Rd.of_came hK))
  have hAt := hid (fun (i k : Int) (w1 : World) (b : Below w.heap.size w w1) (h0 : 0 ≤ i) (h1 : 1 ≤ k) => a2At_any A' n' c' xs' i k w1 w (fun p hp => b.cell hp) hK' (by omega) h0 h1)
  clear hK hK' hq
  go_enter Try.func13, Try.ntmps13
  go_wp2_with (go_at_call 37; refine (hL.out).mono ?_; rintro e w' ⟨rfl, rfl⟩)
  refine hD.out.mono ?_
  rintro e w1 ⟨v1, rfl, ⟨p, hp, ho1⟩, hB⟩
  obtain ⟨A1, c1, rfl⟩ := own_form ho1
  obtain ⟨hpb, hn1, hn2⟩ := thOk_iff (okP_th hp)
  have hPb := prN_bd hp
  have hHb := hiT_bd (okP_th hp)
  have hML := prN_mul hp
  obtain ⟨X, hX⟩ : ∃ X, prN p = X := ⟨_, rfl⟩
  obtain ⟨H, hH⟩ : ∃ H, hiT p = H := ⟨_, rfl⟩
  obtain ⟨S, hS⟩ : ∃ S, sumL p = S := ⟨_, rfl⟩
  rw [hX, hH] at hPb
  rw [hH] at hHb
  rw [hX, hS] at hML
  obtain ⟨hX0, hX1⟩ := hPb
  obtain ⟨hH0, hH1⟩ := hHb
  have hSb : 0 ≤ X * (p.length : Int) ∧ X * (p.length : Int) ≤ 180 := by
    have h1 : X * (p.length : Int) ≤ 15 * (p.length : Int) := Int.mul_le_mul_of_nonneg_right (by omega) (by omega)
    have h2 : 0 * (p.length : Int) ≤ X * (p.length : Int) := Int.mul_le_mul_of_nonneg_right (by omega) (by omega)
    omega
  obtain ⟨hSb0, hSb1⟩ := hSb
  have hMS : (X * (p.length : Int) != S) = false := by rw [hML]; simp
  have hHX : decide (H < X) = false := by simp; omega
  have HX := hid hX
  have HH := hid hH
  have HP := hid hp
  have HPB := hid hpb
  have HSS := hid hS
  clear hD hL hp hpb hX hH hML hS
  go_wp2_with fail
  refine (LandingBeats_ok A1 p.length c1 p w1 HP.out (Rd.of_own ho1)).mono ?_
  rintro e w2 ⟨v2, rfl, ho2, hb2⟩
  obtain ⟨A2, c2, rfl⟩ := own_form ho2
  have ho1 := own_below ho1 hb2
  replace hB := bchain hB hb2
  clear hb2
  go_wp2_with fail
  have hC := PropsOf_ok A1 p.length c1 p w2 HP.out (Rd.of_own ho1)
  rw [HX.out] at hC
  refine hC.mono ?_
  clear hC
  rintro e w3 ⟨rfl, hb3⟩
  have ho1 := own_below ho1 hb3
  have ho2 := own_below ho2 hb3
  replace hB := bchain hB hb3
  clear hb3
  go_wp2_with fail
  have hC := HighestOf_ok A1 p.length c1 p w3 HP.out (Rd.of_own ho1)
  rw [HH.out] at hC
  refine hC.mono ?_
  clear hC
  rintro e w4 ⟨rfl, hb4⟩
  have ho1 := own_below ho1 hb4
  have ho2 := own_below ho2 hb4
  replace hB := bchain hB hb4
  clear hb4
  go_wp2_with fail
  refine (PatternText_ok A1 p.length c1 p w4 HP.out (Rd.of_own ho1)).mono ?_
  rintro e w5 ⟨rfl, hb5⟩
  have ho1 := own_below ho1 hb5
  have ho2 := own_below ho2 hb5
  replace hB := bchain hB hb5
  clear hb5
  have hRP := ReadPattern_any (patS p) (by rw [patS, strOfNums_size, List.length_map]; omega) w5
  rw [readPat HP.out] at hRP
  have hRP := hid hRP
  generalize patS p = TX at *
  go_wp2_with fail
  refine hRP.out.mono ?_
  rintro e w6 ⟨v6, rfl, ho6, hb6⟩
  have ho6 : w6.ownsRow w5.heap.size 2 1 v6 p.length (ints p) := ho6
  obtain ⟨A6, c6, rfl⟩ := own_form ho6
  have ho1 := own_below ho1 hb6
  have ho2 := own_below ho2 hb6
  replace hB := bchain hB hb6
  clear hb6 hRP
  have hC := a2Sum_any A1 p.length c1 p w6 (by omega) (fun x hx => by have := HPB.out x hx; omega) (Rd.of_own ho1)
  rw [HSS.out] at hC
  have hC := hid hC
  go_wp2_with fail
  refine hC.out.mono ?_
  rintro e w' ⟨rfl, rfl⟩
  clear hC
  go_wp2_with fail
  have hC := a2Same_any A6 A1 p.length p.length c6 c1 p p w6 (by omega) (by omega) (Rd.of_own ho6) (Rd.of_own ho1)
  rw [decide_eq_true rfl] at hC
  refine hC.mono ?_
  clear hC
  rintro e w7 ⟨rfl, hb7⟩
  have ho1 := own_below ho1 hb7
  have ho2 := own_below ho2 hb7
  replace hB := bchain hB hb7
  clear hb7 ho6
  go_wp2_with fail
  have hC := ValidPattern_any A1 p.length c1 p w7 (by omega) (Rd.of_own ho1)
  rw [HP.out] at hC
  refine hC.mono ?_
  clear hC
  rintro e w8 ⟨rfl, hb8⟩
  have ho1 := own_below ho1 hb8
  have ho2 := own_below ho2 hb8
  replace hB := bchain hB hb8
  clear hb8
  have hz8 := hB.size
  go_wp2_with (at_make; refine make_own w8.heap.size Try.underlying53 inf_bl rfl rfl (.tmp 97) (.tmp 97) rfl .i64 .i64 p.length rfl rfl (by omega) (by omega) (Nat.le_refl _) ?_; intro w9 ho9 hb9 hlt9; rw [bools_nil] at ho9)
  have ho1 := own_below ho1 hb9
  have ho2 := own_below ho2 hb9
  replace hB := bchain hB hb9
  have hz9 := hB.size
  go_loopw [16] (fun i wr => Hid (∃ (k : Nat) (s : List Nat), k ≤ p.length ∧ i = .int .i64 k ∧ (∀ x ∈ s, ∃ j, j < k ∧ x = lnN p j) ∧ wr.ownsRow w8.heap.size 4 1 (.slice (some ⟨w8.heap.size, 0, none⟩) p.length p.length) p.length (bools p.length s) ∧ wr.ownsRow w.heap.size 2 1 (.slice A1 p.length c1) p.length (ints p) ∧ wr.ownsRow w1.heap.size 2 1 (.slice A2 p.length c2) p.length (ints (lnd p)) ∧ Below w.heap.size w wr)) (fun i _ => p.length - (intOf i).toNat)
  case atStart => exact hid ⟨0, [], Nat.zero_le _, rfl, (fun x h => by cases h), ho9, ho1, ho2, hB⟩
  case round =>
    clear ho1 ho2 ho9 hb9 hB
    obtain ⟨k, s, hk, rfl, hs, ho9, ho1, ho2, hB⟩ := hrel.out
    have hzr := hB.size
    by_cases hlt : k < p.length
    · obtain ⟨g2, off2, l, rfl, hg2, hlx, _, hcl⟩ := (Rd.of_own ho2).at_ (by exact hlt)
      have hle : l = Ld p k := by
        have h1 := lnd_at p k hlt
        rw [hlx] at h1
        exact Option.some.inj h1
      have hLn : l = ((lnN p k : Nat) : Int) := by
        rw [hle]
        have := Ld_range (p := p) (j := k) hn1
        unfold lnN; omega
      have hLlt := lnN_lt HP.out k
      have hnot : lnN p k ∉ s := by
        intro h
        obtain ⟨j, hj, e⟩ := hs _ h
        exact lnN_inj HP.out hlt (by omega) (by omega) e
      have hs2 : ∀ x ∈ lnN p k :: s, ∃ j, j < k + 1 ∧ x = lnN p j := by
        intro x hx
        rcases List.mem_cons.1 hx with rfl | hx
        · exact ⟨k, by omega, rfl⟩
        · obtain ⟨j, hj, e⟩ := hs x hx
          exact ⟨j, by omega, e⟩
      have HS2 := hid hs2
      obtain ⟨ln, hln⟩ : ∃ ln, lnN p k = ln := ⟨_, rfl⟩
      rw [hln] at hLn hLlt hnot HS2
      subst hLn
      have hcs : wr.cell? ⟨w8.heap.size, ln, none⟩ = some (.bool false) := by
        rw [ho9.cellAt ln (by omega), bools_at hLlt, decide_eq_false hnot]
      have hfs := ho9.frozenAt ln
      obtain ⟨ho10, hg10⟩ := ho9.stored ln (.bool true)
      rw [bools_set hLlt] at ho10
      have HO10 := hid ho10
      have HO1 := hid (own_types ho1 ho9 (by decide) hg10)
      have HO2 := hid (own_types ho2 ho9 (by decide) hg10)
      have HB10 : Hid (Below w.heap.size w (wr.setCell ⟨w8.heap.size, ln, none⟩ (.bool true))) := Below.setCell hB hz8 _
      clear hln hle hs hs2 hnot hlx ho10 hg10 ho9 ho1 ho2 hrel
      go_wp2
      go_roundw
      case rel => exact hid ⟨k + 1, ln :: s, by omega, by go_num, HS2.out, HO10.out, HO1.out, HO2.out, HB10.out⟩
      case measure => simp [intOf]; omega
    · clear hs ho9 ho2 hrel
      have hw8 := hzr
      go_wp2_with fail
      refine (hAt.out 0 200 wr hB (by omega) (by omega)).mono ?_
      rintro e wr ⟨⟨d, d0, d1, rfl⟩, rfl⟩
      have hTb := atB_bd HP.out (d - 100)
      have hlf := lf_eq_of HP.out (b := d - 100) (c := d - 100 + atB p (d - 100)) rfl
      obtain ⟨T, hT⟩ : ∃ T, atB p (d - 100) = T := ⟨_, rfl⟩
      rw [hT] at hTb hlf
      obtain ⟨T0, T1⟩ := hTb
      have hC1 := ThrowAt_ok A1 p.length c1 p (d - 100) wr (by omega) (by omega) HP.out (Rd.of_own ho1)
      rw [hT] at hC1
      have hC1 := hid hC1
      have HLF := hid hlf
      clear hT hlf
      go_wp2_with fail
      refine hC1.out.mono ?_
      rintro e w10 ⟨rfl, hb10⟩
      have ho1 := own_below ho1 hb10
      replace hB := bchain hB hb10
      clear hb10 hC1
      have hC1 := LandsFrom_ok A1 p.length c1 p (d - 100 + T) w10 (by omega) (by omega) HP.out (Rd.of_own ho1)
      rw [HLF.out] at hC1
      have hC1 := hid hC1
      go_wp2_with fail
      refine hC1.out.mono ?_
      rintro e w11 ⟨rfl, hb11⟩
      have ho1 := own_below ho1 hb11
      replace hB := bchain hB hb11
      clear hb11 hC1
      have hC1 := CollisionOf_any A1 p.length c1 p w11 (by omega) (Rd.of_own ho1)
      rw [okP_coll HP.out] at hC1
      have hC1 := hid hC1
      have hdd : (d - 100 == d - 100) = true := by simp
      go_wp2_with fail
      refine hC1.out.mono ?_
      rintro e w12 ⟨rfl, hb12⟩
      replace hB := bchain hB hb12
      go_wp2
      go_ret
      exact ⟨rfl, hB⟩
set_option maxRecDepth 100000 in
theorem fnPatterns_walk (w : World) (A : Option Addr) (n c : Nat) (xs : List Int) (hK : Came .u8 w A n c xs) (A' : Option Addr) (n' c' : Nat) (xs' : List Int) (hK' : Came .u8 w A' n' c' xs') :
    Calls Try.prog 13 #[.slice A n c, .slice A' n' c'] w fun e w' => e = .returned (.bool true) ∧ Below w.heap.size w w' := by
  by_cases h : n ≤ 3000 ∧ n' ≤ 3000
  · exact fnPatterns_main w A n c xs hK A' n' c' xs' hK' h.1 h.2
  · have hq : (decide (3000 < n) || decide (3000 < n')) = true := by simp; omega
    have h1 := hK.2.1; have h2 := hK.2.2.1; have h3 := hK'.2.1; have h4 := hK'.2.2.1
    unfold maxLen at h2 h4
    have hL := a2Long_any A A' n c n' c' w (by omega) (by omega)
    rw [hq] at hL
    have hL := hid hL
    clear hK hK' h hq
    go_enter Try.func13, Try.ntmps13
    go_wp2_with (go_at_call 37; refine (hL.out).mono ?_; rintro e w' ⟨rfl, rfl⟩)
    go_ret
    exact ⟨rfl, (by repeat' (first | exact Below.refl _ _ | (with_reducible assumption) | (with_reducible refine Below.alloc ?_ ?_ _) | (with_reducible refine Below.setCell ?_ ?_ _) | (with_reducible refine Below.drew ?_) | (with_reducible refine below_drewN ?_ _) | (refine Below.trans ?_ (Below.mono (by assumption) ?_)) | (with_reducible exact Nat.le_refl _) | (with_reducible assumption) | (exact Below.size (by assumption)) | omega | go_size | (simp at *; omega)))⟩
end Go.Proofs.Yteaabniemlnjbaa
