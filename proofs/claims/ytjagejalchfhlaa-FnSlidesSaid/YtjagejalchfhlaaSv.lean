/- The walk of the law FnSlides. -/
import Derived.Test.YtjagejalchfhlaaYh
import Derived.Test.YtjagejalchfhlaaYr
import Derived.Test.YtjagejalchfhlaaF6
namespace Go.Proofs.Ytjagejalchfhlaa
open Go.RowKit
set_option linter.unusedVariables false

theorem same_bts {p : List Beat} : decide (p = p) = true := decide_eq_true rfl
theorem same_ints {p : List Int} : decide (p = p) = true := decide_eq_true rfl
theorem int_bne (b : Int) : (b != b) = false := by simp
theorem slide_yes {p : List Beat} (h : (rSlide p).2 = 0) : syOk p = true ∧ (rSlide p).1 = slP p := by
  unfold rSlide at h ⊢
  cases h1 : syOk p with
  | false => rw [h1] at h; cases h
  | true => exact ⟨rfl, rfl⟩
theorem slide_ok {p : List Beat} (h : syOk p = true) : rSlide p = (slP p, 0) := by simp [rSlide, h]
theorem props_ok {p : List Beat} (h : syOk p = true) : rSyncProps p = (syPr p, 0) := by simp [rSyncProps, h]
theorem rSlide_len (p : List Beat) : (rSlide p).1.length ≤ 2 * p.length := by
  unfold rSlide; split
  · show (slP p).length ≤ _; rw [slP_len]; exact Nat.le_refl _
  · simp
set_option maxHeartbeats 1000000 in
theorem DrawPairUp_any (A : Option Addr) (n c : Nat) (xs : List Int) (w : World) (hn : n ≤ 1099511627776) (hx : ∀ x ∈ xs, 0 ≤ x ∧ x ≤ 255) (hr : Rd w w.heap.size 1 A n (xs.map (Value.int .u8))) :
    Calls Try.prog 29 #[.slice A n c] w fun e w' => ∃ v, e = .returned v ∧ AnyRow w.heap.size w' v ∧ Below w.heap.size w w' := by
  have h0 := hid (l00From_any A n c xs w hn hx hr)
  clear hx hr
  go_enter Try.func29, Try.ntmps29
  go_wp2_with fail
  refine h0.out.mono ?_
  rintro e w1 ⟨rfl, hs1, hb1⟩
  have z1 := hb1.size
  have l1 := hs1.lt
  clear h0
  go_wp2_with fail
  refine (one_src _ A n c 0 xs 4 w1 (by omega) (by omega) hs1).mono ?_
  rintro e w2 ⟨⟨b, rfl⟩, hs2, hg2⟩
  have hB2 : Below w.heap.size w w2 := hb1.grown hg2 z1 (fun g h => by simp at h; omega)
  have z2 := hg2.size
  clear hs1 hb1 hg2
  cases b
  case true =>
    go_wp2_with fail
    refine (l02Bent_src _ A n c _ xs w2 (by omega) hs2).mono ?_
    rintro e w3 ⟨v3, rfl, ⟨p, hp, ho3⟩, hs3, hg3⟩
    have hB3 : Below w.heap.size w w3 := hB2.grown hg3 (by omega) (fun g h => by simp at h; omega)
    go_wp2
    go_ret
    exact ⟨_, rfl, ⟨p, hp, own_more ho3 (by omega)⟩, hB3⟩
  case false =>
    go_wp2_with fail
    refine (l05Draw_src _ A n c _ xs 3 w2 (by omega) (by omega) (by omega) hs2).mono ?_
    rintro e w3 ⟨v3, rfl, ⟨p, hp1, hp3, ho3⟩, hs3, hg3⟩
    have hB3 : Below w.heap.size w w3 := hB2.grown hg3 (by omega) (fun g h => by simp at h; omega)
    have z3 := hg3.size
    obtain ⟨A3, c3, rfl⟩ := own_form ho3
    have hsl := rSlide_len p
    obtain ⟨⟨sp, sc⟩, hS⟩ : ∃ r, rSlide p = r := ⟨_, rfl⟩
    have hC := specSlideSync_any A3 p.length c3 p w3 (by omega) (Rd.of_own ho3)
    rw [hS] at hC hsl
    have hC := hid hC
    simp only at hsl
    clear hS hs2 hg3 ho3
    go_wp2_with fail
    refine hC.out.mono ?_
    rintro e w4 ⟨⟨A4, c4, hA4, rfl, ho4⟩, hb4⟩
    simp only at ho4
    have hs4 := hs3.below hb4 (by omega)
    have hB4 := bchain hB3 hb4
    have z4 := hb4.size
    clear hs3 hA4 hC
    go_wp2_with fail
    refine (one_src _ A n c _ xs 3 w4 (by omega) (by omega) hs4).mono ?_
    rintro e w5 ⟨⟨b, rfl⟩, hs5, hg5⟩
    have hB5 : Below w.heap.size w w5 := hB4.grown hg5 (by omega) (fun g h => by simp at h; omega)
    have ho5 := own_ask ho4 hs4 hg5
    have z5 := hg5.size
    clear hs4 ho4 hg5
    cases b
    case false =>
      go_wp2
      go_ret
      exact ⟨_, rfl, ⟨sp, by omega, own_more ho5 (by omega)⟩, hB5⟩
    case true =>
      go_wp2_with fail
      refine (l02Draw_src _ A n c _ xs 7 w5 (by omega) (by omega) (by omega) hs5).mono ?_
      rintro e w6 ⟨v6, rfl, hO, hs6, hg6⟩
      obtain ⟨q, hq, ho6⟩ := hO.any
      have hB6 : Below w.heap.size w w6 := hB5.grown hg6 (by omega) (fun g h => by simp at h; omega)
      go_wp2
      go_ret
      exact ⟨_, rfl, ⟨q, hq, own_more ho6 (by omega)⟩, hB6⟩
set_option maxRecDepth 100000 in
set_option maxHeartbeats 4000000 in
theorem fnSlides_main (w : World) (A : Option Addr) (n c : Nat) (xs : List Int) (hK : Came .u8 w A n c xs) (hl : n ≤ 4096) :
    Calls Try.prog 4 #[.slice A n c] w fun e w' => e = .returned (.bool true) ∧ Below w.heap.size w w' := by
  have hq : decide (4096 < n) = false := by simp; omega
  have hL := f6big_any A n c w (by omega)
  rw [hq] at hL
  have hL := hid hL
  have hR := hid (fun (w1 : World) (b : Below w.heap.size w w1) => ((Rd.of_came hK).below b (Nat.le_refl _)).more b.size)
  have hX := hid hK.bytes
  have hB : Below w.heap.size w w := Below.refl _ _
  clear hK hq
  go_enter Try.func4, Try.ntmps4
  go_wp2_with (go_at_call 11; refine (hL.out).mono ?_; rintro e w' ⟨rfl, rfl⟩)
  refine (DrawSlideSync_any A n c xs _ (by omega) hX.out (hR.out _ hB)).mono ?_
  rintro e w1 ⟨v1, rfl, ⟨p, hpl, ho1⟩, hb1⟩
  replace hB := bchain hB hb1
  have z1 := hB.size
  obtain ⟨A1, c1, rfl, hA1⟩ := own_form3 ho1
  clear hA1 hb1
  obtain ⟨⟨sp, sc⟩, hM⟩ : ∃ r, rSlide p = r := ⟨_, rfl⟩
  have hsl := rSlide_len p
  rw [hM] at hsl
  simp only at hsl
  have HM := hid hM
  clear hM
  have hC := SlideSync_any A1 p.length c1 p w1 (by omega) (Rd.of_own ho1)
  rw [HM.out] at hC
  go_wp2_with fail
  refine (hC).mono ?_
  rintro e w2 ⟨⟨A2, c2, hA2, rfl, ho2⟩, hb2⟩
  replace ho1 := own_below ho1 hb2
  replace hB := bchain hB hb2
  have z2 := hB.size
  clear hC hA2
  simp only at ho2
  clear hb2
  have hC := specSlideSync_any A1 p.length c1 p w2 (by omega) (Rd.of_own ho1)
  rw [HM.out] at hC
  go_wp2_with fail
  refine (hC).mono ?_
  rintro e w3 ⟨⟨A3, c3, hA3, rfl, ho3⟩, hb3⟩
  replace ho1 := own_below ho1 hb3; replace ho2 := own_below ho2 hb3
  replace hB := bchain hB hb3
  have z3 := hB.size
  clear hC hA3
  simp only at ho3
  clear hb3 z2
  go_wp2_with fail
  refine (DrawPairUp_any A n c xs _ (by omega) hX.out (hR.out _ hB)).mono ?_
  rintro e w4 ⟨v4, rfl, ⟨q, hql, ho4⟩, hb4⟩
  replace ho1 := own_below ho1 hb4; replace ho2 := own_below ho2 hb4; replace ho3 := own_below ho3 hb4
  replace hB := bchain hB hb4
  have z4 := hB.size
  obtain ⟨A4, c4, rfl, hA4⟩ := own_form3 ho4
  clear hA4 hb4
  obtain ⟨⟨pp, pc⟩, hS⟩ : ∃ r, rPair q = r := ⟨_, rfl⟩
  have HS := hid hS
  have hppl : pp.length ≤ 1099511627776 := by
    have e : pp = (rPair q).1 := by rw [hS]
    rw [e]; unfold rPair
    split
    · split
      · simp
      · split
        · obtain ⟨M, hM⟩ := allP_len q
          show (prP (allP q)).length ≤ _; rw [prP_len M _ hM]; omega
        · simp
    · simp
  clear hS
  have hC := PairUp_any A4 q.length c4 q w4 (by omega) (Rd.of_own ho4)
  rw [HS.out] at hC
  go_wp2_with fail
  refine (hC).mono ?_
  rintro e w5 ⟨⟨A5, c5, hA5, rfl, ho5⟩, hb5⟩
  replace ho1 := own_below ho1 hb5; replace ho2 := own_below ho2 hb5; replace ho3 := own_below ho3 hb5; replace ho4 := own_below ho4 hb5
  replace hB := bchain hB hb5
  have z5 := hB.size
  clear hC hA5
  simp only at ho5
  clear hb5 z4
  have hC := specPairUp_any A4 q.length c4 q w5 (by omega) (Rd.of_own ho4)
  rw [HS.out] at hC
  go_wp2_with fail
  refine (hC).mono ?_
  rintro e w6 ⟨⟨A6, c6, hA6, rfl, ho6⟩, hb6⟩
  replace ho1 := own_below ho1 hb6; replace ho2 := own_below ho2 hb6; replace ho3 := own_below ho3 hb6; replace ho4 := own_below ho4 hb6; replace ho5 := own_below ho5 hb6
  replace hB := bchain hB hb6
  have z6 := hB.size
  clear hC hA6
  simp only at ho6
  clear hb6 z5
  obtain ⟨⟨m1, m2⟩, hcl⟩ : ∃ r, rSyncProps p = r := ⟨_, rfl⟩
  have HP := hid hcl
  clear hcl
  obtain ⟨⟨k1, k2⟩, hcl⟩ : ∃ r, rCross p = r := ⟨_, rfl⟩
  have HC := hid hcl
  clear hcl
  have hC := SyncProps_any A1 p.length c1 p w6 (by omega) (Rd.of_own ho1)
  rw [HP.out] at hC
  go_wp2_with fail
  refine (hC).mono ?_
  rintro e w7 ⟨rfl, hb7⟩
  replace ho1 := own_below ho1 hb7; replace ho2 := own_below ho2 hb7; replace ho3 := own_below ho3 hb7; replace ho4 := own_below ho4 hb7; replace ho5 := own_below ho5 hb7; replace ho6 := own_below ho6 hb7
  replace hB := bchain hB hb7
  have z7 := hB.size
  clear hC
  clear hb7 z6
  have hC := specSyncProps_any A1 p.length c1 p w7 (by omega) (Rd.of_own ho1)
  rw [HP.out] at hC
  go_wp2_with fail
  refine (hC).mono ?_
  rintro e w8 ⟨rfl, hb8⟩
  replace ho1 := own_below ho1 hb8; replace ho2 := own_below ho2 hb8; replace ho3 := own_below ho3 hb8; replace ho4 := own_below ho4 hb8; replace ho5 := own_below ho5 hb8; replace ho6 := own_below ho6 hb8
  replace hB := bchain hB hb8
  have z8 := hB.size
  clear hC
  clear hb8 z7
  have hC := CrossCount_any A1 p.length c1 p w8 (by omega) (Rd.of_own ho1)
  rw [HC.out] at hC
  go_wp2_with fail
  refine (hC).mono ?_
  rintro e w9 ⟨rfl, hb9⟩
  replace ho1 := own_below ho1 hb9; replace ho2 := own_below ho2 hb9; replace ho3 := own_below ho3 hb9; replace ho4 := own_below ho4 hb9; replace ho5 := own_below ho5 hb9; replace ho6 := own_below ho6 hb9
  replace hB := bchain hB hb9
  have z9 := hB.size
  clear hC
  clear hb9 z8
  have hC := specCrossCount_any A1 p.length c1 p w9 (by omega) (Rd.of_own ho1)
  rw [HC.out] at hC
  go_wp2_with fail
  refine (hC).mono ?_
  rintro e w10 ⟨rfl, hb10⟩
  replace ho1 := own_below ho1 hb10; replace ho2 := own_below ho2 hb10; replace ho3 := own_below ho3 hb10; replace ho4 := own_below ho4 hb10; replace ho5 := own_below ho5 hb10; replace ho6 := own_below ho6 hb10
  replace hB := bchain hB hb10
  have z10 := hB.size
  clear hC
  clear hb10 z9
  have q1 := int_bne sc
  have q2 := int_bne pc
  have q3 := int_bne m1
  have q4 := int_bne m2
  have q5 := int_bne k1
  have q6 := int_bne k2
  have hC := f6ints_any A2 A3 sp.length sp.length c2 c3 sp sp w10 (by omega) (by omega) (Rd.of_own ho2) (Rd.of_own ho3)
  rw [same_ints] at hC
  go_wp2_with fail
  refine (hC).mono ?_
  rintro e w11 ⟨rfl, hb11⟩
  replace ho1 := own_below ho1 hb11; replace ho2 := own_below ho2 hb11; replace ho3 := own_below ho3 hb11; replace ho4 := own_below ho4 hb11; replace ho5 := own_below ho5 hb11; replace ho6 := own_below ho6 hb11
  replace hB := bchain hB hb11
  have z11 := hB.size
  clear hC
  clear hb11 z10
  clear ho3
  have hC := specSameSync_any A5 A6 pp.length pp.length c5 c6 pp pp w11 (by omega) (by omega) (Rd.of_own ho5) (Rd.of_own ho6)
  rw [same_bts] at hC
  go_wp2_with fail
  refine (hC).mono ?_
  rintro e w12 ⟨rfl, hb12⟩
  replace ho1 := own_below ho1 hb12; replace ho2 := own_below ho2 hb12; replace ho4 := own_below ho4 hb12; replace ho5 := own_below ho5 hb12; replace ho6 := own_below ho6 hb12
  replace hB := bchain hB hb12
  have z12 := hB.size
  clear hC
  clear hb12 z11
  clear ho6
  clear q1 q2 q3 q4 q5 q6
  by_cases hsc : pc = 0
  · skip
    have hy := rPair_yes (q := q) (by rw [HS.out]; exact hsc)
    rw [HS.out] at hy
    obtain ⟨hqok, hpp, hok, hsl2, hal, hal2⟩ := hy
    simp only at hpp
    rw [← hpp] at hok hsl2 hal
    subst hsc
    have hq1 := (thOk_iff (okP_th hqok)).2.1
    have hpl1 := (syOk_bd hok).1
    have hgd := hid (fun (i : Nat) (h : i < (allP q).length) => allP_getD h)
    have hC := SlideSync_any A5 pp.length c5 pp w12 (by omega) (Rd.of_own ho5)
    rw [slide_ok hok, hsl2] at hC
    have hC := hid hC
    have HOK := hid hok
    have HAL := hid hal
    clear hpp hok hsl2 hal hqok
    generalize allP q = a at *
    go_wp2_with fail
    refine (hC.out).mono ?_
    rintro e w13 ⟨⟨A8, c8, hA8, rfl, ho8⟩, hb13⟩
    replace ho1 := own_below ho1 hb13; replace ho2 := own_below ho2 hb13; replace ho4 := own_below ho4 hb13; replace ho5 := own_below ho5 hb13
    replace hB := bchain hB hb13
    have z13 := hB.size
    clear hC hA8
    simp only at ho8
    clear hb13 z12
    have hC := ValidSync_any A5 pp.length c5 pp w13 (by omega) (Rd.of_own ho5)
    rw [HOK.out] at hC
    have hC := hid hC
    have hq2 : ((a.length : Int) != 2 * (pp.length : Int)) = false := by have := HAL.out; simp; omega
    go_wp2_with fail
    refine (hC.out).mono ?_
    rintro e w14 ⟨rfl, hb14⟩
    replace ho1 := own_below ho1 hb14; replace ho2 := own_below ho2 hb14; replace ho4 := own_below ho4 hb14; replace ho5 := own_below ho5 hb14; replace ho8 := own_below ho8 hb14
    replace hB := bchain hB hb14
    have z14 := hB.size
    clear hC
    clear hb14 z13
    obtain ⟨g8, c8', hv8, _, _⟩ := own_block ho8 (by have := HAL.out; omega)
    injection hv8 with e1 e2 e3
    subst e1 e3
    obtain ⟨g4, c4', hv4, _, _⟩ := own_block ho4 (by omega)
    injection hv4 with e1 e2 e3
    subst e1 e3
    have HO1 := hid (fun (w1 : World) (b : Below w14.heap.size w14 w1) => own_below ho1 b)
    have HO2 := hid (fun (w1 : World) (b : Below w14.heap.size w14 w1) => own_below ho2 b)
    have HO4 := hid (fun (w1 : World) (b : Below w14.heap.size w14 w1) => own_below ho4 b)
    have HO8 := hid (fun (w1 : World) (b : Below w14.heap.size w14 w1) => own_below ho8 b)
    clear ho1 ho2 ho4 ho8 ho5
    go_wp2
    clear hq2
    obtain ⟨wi, rfl⟩ : ∃ wi : World, wi = w14 := ⟨_, rfl⟩
    go_loopw [23] (fun i wr => Hid (∃ k : Nat, k ≤ a.length ∧ i = .int .i64 k ∧ Below wi.heap.size wi wr)) (fun i _ => a.length - (intOf i).toNat)
    case atStart => exact hid ⟨0, Nat.zero_le _, rfl, Below.refl _ _⟩
    case round =>
      obtain ⟨k, hk, rfl, hbr⟩ := hrel.out
      clear hrel
      by_cases hlt : k < a.length
      · have h8 := HO8.out wr hbr
        have h4 := HO4.out wr hbr
        obtain ⟨z, hz⟩ : ∃ z, a.getD k 0 = z := ⟨_, rfl⟩
        obtain ⟨j, hj⟩ : ∃ j, k % q.length = j := ⟨_, rfl⟩
        have hjl : j < q.length := by rw [← hj]; exact Nat.mod_lt _ (by omega)
        have hc8 : wr.cell? ⟨g8, k, none⟩ = some (.int .i64 z) := by
          rw [h8.cellAt k (by omega), ← hz]; exact ints_at hlt
        have hc4 : wr.cell? ⟨g4, j, none⟩ = some (.int .i64 z) := by
          rw [h4.cellAt j (by omega), ← hz, hgd.out k hlt, hj]; exact ints_at hjl
        have ht : ((k : Int)).tmod (q.length : Int) = (j : Int) := by rw [Int.tmod_eq_emod_of_nonneg (by omega), ← Int.natCast_emod, hj]
        have q1 := int_bne z
        have hji : (j : Int) < (q.length : Int) := by omega
        have hki : (k : Int) < (a.length : Int) := by omega
        have hwr : IntKind.i64.wrap (j : Int) = (j : Int) := IntWalk.i64_in _ (by omega)
        clear h8 h4 hz hj
        go_wp2
        go_quiet (fail)
        clear ht hwr
        go_wp2
        go_roundw
        case rel => exact hid ⟨k + 1, by omega, by go_num, (by repeat' (first | exact Below.refl _ _ | (with_reducible assumption) | (with_reducible refine Below.alloc ?_ ?_ _) | (with_reducible refine Below.setCell ?_ ?_ _) | (with_reducible refine Below.drew ?_) | (with_reducible refine below_drewN ?_ _) | (refine Below.trans ?_ (Below.mono (by assumption) ?_)) | (with_reducible exact Nat.le_refl _) | (with_reducible assumption) | (exact Below.size (by assumption)) | omega | go_size | (simp at *; omega)))⟩
        case measure => simp [intOf]; omega
      · replace hB := bchain hB hbr
        have ho1 := HO1.out wr hbr
        have ho2 := HO2.out wr hbr
        clear HO1 HO2 HO4 HO8
        by_cases hmc : sc = 0
        · have hy := slide_yes (p := p) (by rw [HM.out]; exact hmc)
          rw [HM.out] at hy
          obtain ⟨hok, hmp⟩ := hy
          simp only at hmp
          subst hmc hmp
          have HOK := hid hok
          have hpl6 := (syOk_bd hok).2
          have hP := HP.out
          rw [props_ok hok] at hP
          injection hP with e1 e2
          subst e1 e2
          clear hok
          have hC := PropsOf_ok A2 (slP p).length c2 (slP p) wr (slP_ok HOK.out) (Rd.of_own ho2)
          rw [slP_props HOK.out] at hC
          have hC := hid hC
          go_wp2_with fail
          refine (hC.out).mono ?_
          rintro e w15 ⟨rfl, hb15⟩
          replace ho1 := own_below ho1 hb15; replace ho2 := own_below ho2 hb15
          replace hB := bchain hB hb15
          have z15 := hB.size
          clear hC
          clear hb15 z14
          have hC := PairUp_any A2 (slP p).length c2 (slP p) w15 (by omega) (Rd.of_own ho2)
          rw [rPair_sl HOK.out] at hC
          have hC := hid hC
          go_wp2_with fail
          refine (hC.out).mono ?_
          rintro e w16 ⟨⟨A9, c9, hA9, rfl, ho9⟩, hb16⟩
          replace ho1 := own_below ho1 hb16; replace ho2 := own_below ho2 hb16
          replace hB := bchain hB hb16
          have z16 := hB.size
          clear hC hA9
          simp only at ho9
          clear hb16 z15
          have hC := specSameSync_any A9 A1 p.length p.length c9 c1 p p w16 (by omega) (by omega) (Rd.of_own ho9) (Rd.of_own ho1)
          rw [same_bts] at hC
          have hC := hid hC
          have q9 : (syPr p == syPr p) = true := by simp
          go_wp2_with fail
          refine (hC.out).mono ?_
          rintro e w17 ⟨rfl, hb17⟩
          replace ho1 := own_below ho1 hb17; replace ho2 := own_below ho2 hb17; replace ho9 := own_below ho9 hb17
          replace hB := bchain hB hb17
          have z17 := hB.size
          clear hC
          clear hb17 z16
          go_wp2
          go_ret
          exact ⟨rfl, hB⟩
        · have hq1 : (sc != 0) = true := by simpa using hmc
          clear hmc
          go_wp2
          go_ret
          exact ⟨rfl, hB⟩
  · have hq1 : (pc == 0) = false := by simpa using hsc
    clear hsc
    clear ho5 ho4
    by_cases hmc : sc = 0
    · have hy := slide_yes (p := p) (by rw [HM.out]; exact hmc)
      rw [HM.out] at hy
      obtain ⟨hok, hmp⟩ := hy
      simp only at hmp
      subst hmc hmp
      have HOK := hid hok
      have hpl6 := (syOk_bd hok).2
      have hP := HP.out
      rw [props_ok hok] at hP
      injection hP with e1 e2
      subst e1 e2
      clear hok
      have hC := PropsOf_ok A2 (slP p).length c2 (slP p) w12 (slP_ok HOK.out) (Rd.of_own ho2)
      rw [slP_props HOK.out] at hC
      have hC := hid hC
      go_wp2_with fail
      refine (hC.out).mono ?_
      rintro e w13 ⟨rfl, hb13⟩
      replace ho1 := own_below ho1 hb13; replace ho2 := own_below ho2 hb13
      replace hB := bchain hB hb13
      have z13 := hB.size
      clear hC
      clear hb13 z12
      have hC := PairUp_any A2 (slP p).length c2 (slP p) w13 (by omega) (Rd.of_own ho2)
      rw [rPair_sl HOK.out] at hC
      have hC := hid hC
      go_wp2_with fail
      refine (hC.out).mono ?_
      rintro e w14 ⟨⟨A9, c9, hA9, rfl, ho9⟩, hb14⟩
      replace ho1 := own_below ho1 hb14; replace ho2 := own_below ho2 hb14
      replace hB := bchain hB hb14
      have z14 := hB.size
      clear hC hA9
      simp only at ho9
      clear hb14 z13
      have hC := specSameSync_any A9 A1 p.length p.length c9 c1 p p w14 (by omega) (by omega) (Rd.of_own ho9) (Rd.of_own ho1)
      rw [same_bts] at hC
      have hC := hid hC
      have q9 : (syPr p == syPr p) = true := by simp
      go_wp2_with fail
      refine (hC.out).mono ?_
      rintro e w15 ⟨rfl, hb15⟩
      replace ho1 := own_below ho1 hb15; replace ho2 := own_below ho2 hb15; replace ho9 := own_below ho9 hb15
      replace hB := bchain hB hb15
      have z15 := hB.size
      clear hC
      clear hb15 z14
      go_wp2
      go_ret
      exact ⟨rfl, hB⟩
    · have hq1 : (sc != 0) = true := by simpa using hmc
      clear hmc
      go_wp2
      go_ret
      exact ⟨rfl, hB⟩
set_option maxRecDepth 100000 in
theorem fnSlides_walk (w : World) (A : Option Addr) (n c : Nat) (xs : List Int) (hK : Came .u8 w A n c xs) :
    Calls Try.prog 4 #[.slice A n c] w fun e w' => e = .returned (.bool true) ∧ Below w.heap.size w w' := by
  by_cases h : n ≤ 4096
  · exact fnSlides_main w A n c xs hK h
  · have hq : decide (4096 < n) = true := by simp; omega
    have h1 := hK.2.1; have h2 := hK.2.2.1
    unfold maxLen at h2
    have hL := f6big_any A n c w (by omega)
    rw [hq] at hL
    have hL := hid hL
    clear hK h hq
    go_enter Try.func4, Try.ntmps4
    go_wp2_with (go_at_call 11; refine (hL.out).mono ?_; rintro e w' ⟨rfl, rfl⟩)
    go_ret
    exact ⟨rfl, (by repeat' (first | exact Below.refl _ _ | (with_reducible assumption) | (with_reducible refine Below.alloc ?_ ?_ _) | (with_reducible refine Below.setCell ?_ ?_ _) | (with_reducible refine Below.drew ?_) | (with_reducible refine below_drewN ?_ _) | (refine Below.trans ?_ (Below.mono (by assumption) ?_)) | (with_reducible exact Nat.le_refl _) | (with_reducible assumption) | (exact Below.size (by assumption)) | omega | go_size | (simp at *; omega)))⟩
end Go.Proofs.Ytjagejalchfhlaa
