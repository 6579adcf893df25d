/- The walk of the law FnProps. -/
import Derived.Test.YteaabniemlnjbaaPx
import Derived.Test.YteaabniemlnjbaaLa
import Derived.Test.YteaabniemlnjbaaDw
import Derived.Test.YteaabniemlnjbaaPy
import Derived.Test.YteaabniemlnjbaaPo
import Derived.Test.YteaabniemlnjbaaTp
namespace Go.Proofs.Yteaabniemlnjbaa
open Go.RowKit
set_option linter.unusedVariables false

theorem posK_in {k : Int} : ∀ (xs : List Int) (i : Nat), (posK k i xs).Pairwise (· < ·) ∧ ∀ x ∈ posK k i xs, ∃ m : Nat, x = ((i + m : Nat) : Int) ∧ xs[m]? = some k := by
  intro xs
  induction xs with
  | nil => intro i; exact ⟨List.Pairwise.nil, fun x h => by cases h⟩
  | cons y ys ih =>
    intro i
    obtain ⟨h1, h2⟩ := ih (i + 1)
    have h3 : ∀ x ∈ posK k (i + 1) ys, ∃ m : Nat, x = ((i + m : Nat) : Int) ∧ (y :: ys)[m]? = some k := by
      intro x hx
      obtain ⟨m, e, hm⟩ := h2 x hx
      exact ⟨m + 1, by omega, by simpa using hm⟩
    by_cases h : y = k
    · rw [posK_yes h]
      refine ⟨List.pairwise_cons.2 ⟨fun x hx => ?_, h1⟩, fun x hx => ?_⟩
      · obtain ⟨m, e, _⟩ := h2 x hx
        omega
      · rcases List.mem_cons.1 hx with rfl | hx
        · exact ⟨0, by simp, by simp [h]⟩
        · exact h3 x hx
    · rw [posK_not h]
      exact ⟨h1, h3⟩
theorem pw_at {xs : List Int} (h : xs.Pairwise (· < ·)) {i j : Nat} {x y : Int} (hij : i < j) (hx : xs[i]? = some x) (hy : xs[j]? = some y) : x < y := by
  obtain ⟨hi, ex⟩ := List.getElem?_eq_some_iff.1 hx
  obtain ⟨hj, ey⟩ := List.getElem?_eq_some_iff.1 hy
  have := List.pairwise_iff_getElem.1 h i j hi hj hij
  rwa [ex, ey] at this
theorem own_drewN {w : World} {base e sz n k : Nat} {v : Value} {xs : List Value} (h : w.ownsRow base e sz v n xs) : (w.drewN k).ownsRow base e sz v n xs := h
set_option maxRecDepth 100000 in
set_option maxHeartbeats 4000000 in
theorem fnProps_main (w : World) (A : Option Addr) (n c : Nat) (xs : List Int) (hK : Came .u8 w A n c xs) (A' : Option Addr) (n' c' : Nat) (xs' : List Int) (hK' : Came .u8 w A' n' c' xs') (hl : n ≤ 3000) (hl' : n' ≤ 3000) :
    Calls Try.prog 11 #[.slice A n c, .slice A' n' c'] w fun e w' => e = .returned (.bool true) ∧ Below w.heap.size w w' := by
  have hq : (decide (3000 < n) || decide (3000 < n')) = false := by simp; omega
  have hL := a2Long_any A A' n c n' c' w (by omega) (by omega)
  rw [hq] at hL
  have hL := hid hL
  have hD := hid (A2Pattern_any A n c xs w (by omega) hK.bytes (Rd.of_came hK))
  have hAt := hid (fun (i k : Int) (w1 : World) (b : Below w.heap.size w w1) (h0 : 0 ≤ i) (h1 : 1 ≤ k) => a2At_any A' n' c' xs' i k w1 w (fun p hp => b.cell hp) hK' (by omega) h0 h1)
  clear hK hK' hq
  go_enter Try.func11, Try.ntmps11
  go_wp2_with (go_at_call 37; refine (hL.out).mono ?_; rintro e w' ⟨rfl, rfl⟩)
  refine hD.out.mono ?_
  rintro e w1 ⟨v1, rfl, ⟨p, hp, ho1⟩, hB⟩
  obtain ⟨A1, c1, rfl⟩ := own_form ho1
  obtain ⟨hpb, hn1, hn2⟩ := thOk_iff (okP_th hp)
  have hPb := prN_bd hp
  have hHb := hiT_bd (okP_th hp)
  obtain ⟨X, hX⟩ : ∃ X, prN p = X := ⟨_, rfl⟩
  rw [hX] at hPb
  have hX0 := hPb.1
  have hX1 : X ≤ 15 := by omega
  have HX := hid hX
  have HP := hid hp
  clear hD hL hp hpb hX hPb hHb
  go_wp2_with fail
  have hC := specPropsOf_ok A1 p.length c1 p w1 HP.out (Rd.of_own ho1)
  rw [HX.out] at hC
  refine hC.mono ?_
  clear hC
  rintro e w2 ⟨rfl, hb2⟩
  have ho1 := own_below ho1 hb2
  replace hB := bchain hB hb2
  clear hb2
  go_wp2_with fail
  refine (hAt.out 0 40 w2 hB (by omega) (by omega)).mono ?_
  rintro e w2 ⟨⟨z, z0, z1, rfl⟩, rfl⟩
  obtain ⟨N, hN⟩ : ∃ N : Nat, 20 + z = (N : Int) := ⟨(20 + z).toNat, by omega⟩
  have hN1 : 20 ≤ N := by omega
  have hN2 : N ≤ 59 := by omega
  clear z0 z1
  go_wp2_with fail
  clear hN
  have hrO : rPropsInOrder p (N : Int) = (prs p N, 0) := by
    have h1 : betweenB (N : Int) 0 200 = true := by rw [betweenB_iff]; omega
    simp [rPropsInOrder, HP.out, h1]
  have hC := PropsInOrder_any A1 p.length c1 p (N : Int) w2 (by omega) (Rd.of_own ho1)
  rw [hrO] at hC
  refine hC.mono ?_
  clear hC hrO
  rintro e w3 ⟨v3, rfl, ho3, hb3⟩
  have ho3 : w3.ownsRow w2.heap.size 2 1 v3 (prs p N).length (ints (prs p N)) := ho3
  rw [prs_len] at ho3
  obtain ⟨A3, c3, rfl⟩ := own_form ho3
  have ho1 := own_below ho1 hb3
  replace hB := bchain hB hb3
  clear hb3
  have hz2 : w.heap.size ≤ w3.heap.size := hB.size
  go_wp2
  go_loopw [11, 12] (fun v11 v12 wr => Hid (∃ (b : Nat) (nx : Int), b ≤ N ∧ v12 = .int .i64 b ∧ v11 = .int .i64 nx ∧ nx = (cnt p 0 b : Nat) ∧ wr.ownsRow w.heap.size 2 1 (.slice A1 p.length c1) p.length (ints p) ∧ wr.ownsRow w2.heap.size 2 1 (.slice A3 N c3) N (ints (prs p N)) ∧ Below w.heap.size w wr)) (fun _ i _ => N - (intOf i).toNat)
  case atStart => exact hid ⟨0, 0, Nat.zero_le _, rfl, rfl, rfl, ho1, ho3, hB⟩
  case round =>
    clear ho1 ho3 hB
    obtain ⟨b, nx, hb, rfl, rfl, hnx, ho1, ho3, hB⟩ := hrel.out
    have hz3 := hB.size
    have hnx2 := cnt_under HP.out b
    rw [HX.out, ← hnx] at hnx2
    have hnx0 : 0 ≤ nx := by omega
    by_cases hlt : b < N
    · have hcases := prv_bd HP.out b
      have hTb := atB_bd HP.out (b : Int)
      have hag := fun d => prv_again (d := d) HP.out (b := b)
      have hunder := cnt_under HP.out (b + 1)
      rw [HX.out] at hunder
      obtain ⟨T, hT⟩ : ∃ T, atB p (b : Int) = T := ⟨_, rfl⟩
      obtain ⟨v, hv⟩ : ∃ v, prv p b = v := ⟨_, rfl⟩
      rw [hT, hv] at hcases
      rw [hT] at hTb hag
      rw [hv] at hag
      obtain ⟨hT0, hT1⟩ := hTb
      have hC1 := hid (fun (w1 : World) (h : Rd w1 w1.heap.size 1 A1 p.length (ints p)) => specThrowAt_ok A1 p.length c1 p (b : Int) w1 (by omega) (by omega) HP.out h)
      rw [hT] at hC1
      have hC2 := hid (fun (w1 : World) (h : Rd w1 w1.heap.size 1 A1 p.length (ints p)) => PropAt_any A1 p.length c1 p (b : Int) w1 (by omega) h)
      have hrP : rPropAt p (b : Int) = (v, 0) := by
        have h1 : betweenB (b : Int) 0 199 = true := by rw [betweenB_iff]; omega
        have h2 : ((b : Int) + 1).toNat = b + 1 := by omega
        simp only [rPropAt, HP.out, h1, if_true, h2, Int.toNat_natCast]
        rw [prs_getD HP.out (by omega), hv]
      rw [hrP] at hC2
      have hCE := hid (fun (w1 : World) (h : w1.ownsRow w2.heap.size 2 1 (.slice A3 N c3) N (ints (prs p N))) (j : Nat) (hj : j < N) => show ∃ g3, A3 = some ⟨g3, 0, none⟩ ∧ w1.cell? ⟨g3, j, none⟩ = some (.int .i64 (prv p j)) from by
        obtain ⟨g3, c4, e, _, _⟩ := own_blk h (by omega)
        injection e with e1 e2 e3
        subst e1
        refine ⟨g3, rfl, ?_⟩
        rw [h.cellAt j (by omega), ints, List.getElem?_map, prs_at HP.out N j hj]; rfl)
      have HT := hid hT
      have HV := hid hv
      have HNX := hid hnx
      have HAG := hid hag
      have HC := hid hcases
      have HU := hid hunder
      clear hT hv hnx hag hcases hunder hrP hrel
      go_wp2_with fail
      refine (hC1.out _ (Rd.of_own ho1)).mono ?_
      rintro e w4 ⟨rfl, hb4⟩
      have ho1 := own_below ho1 hb4
      have ho3 := own_below ho3 hb4
      replace hB := bchain hB hb4
      clear hb4 hC1
      go_wp2_with fail
      refine (hC2.out _ (Rd.of_own ho1)).mono ?_
      rintro e w5 ⟨rfl, hb5⟩
      have ho1 := own_below ho1 hb5
      have ho3 := own_below ho3 hb5
      replace hB := bchain hB hb5
      clear hb5 hC2
      obtain ⟨g3, hA3, hc3⟩ := hCE.out w5 ho3 b hlt
      subst hA3
      rw [HV.out] at hc3
      have hvv : (v != v) = false := by simp
      rcases HC.out with ⟨h1, h2⟩ | ⟨h1, h2, h3, h4⟩ | ⟨h1, h2, h3, h4, h5⟩
      · subst h1 h2
        have hnext : Hid (nx = (cnt p 0 (b + 1) : Nat)) := by
          show _ = _
          have h6 := cnt_snoc p 0 b
          rw [Int.zero_add, lf_zero HP.out HT.out, if_neg (by omega)] at h6
          rw [HNX.out, h6]; simp
        have hq1 : decide (nx < (-1 : Int)) = false := by simp; omega
        have hq2 : decide (X ≤ (-1 : Int)) = false := by simp; omega
        have hq3 : ((-1 : Int) == nx) = false := by simp; omega
        clear HC HAG HU hCE
        go_wp2
        go_roundw
        case rel => exact hid ⟨b + 1, nx, by omega, by go_num, rfl, hnext.out, ho1, ho3, hB⟩
        case measure => simp [intOf]; omega
      · have hvn : v = nx := by rw [h3, HNX.out]
        subst hvn
        have hnext : Hid (v + 1 = (cnt p 0 (b + 1) : Nat)) := by
          show _ = _
          rw [h4, HNX.out]; omega
        have hvX : v < X := by have := HU.out; have := hnext.out; omega
        have e1 : decide (v < 0) = false := by simp; omega
        have e2 : (T == 0) = false := by simp; exact h1
        have hTp : 0 < T := by omega
        have hq1 : decide (v < (-1 : Int)) = false := by simp; omega
        have hq2 : decide (X ≤ v) = false := by simp; omega
        have hq3 : (v == v) = true := by simp
        have hq4 : decide (v < v) = false := by simp
        clear h1 h2 h3 h4
        by_cases hTN : (b : Int) + T < (N : Int)
        · obtain ⟨d, hd⟩ : ∃ d : Nat, T = (d : Int) := Int.eq_ofNat_of_zero_le hT0
          subst hd
          have hd0 : 0 < d := by omega
          have hagd := HAG.out d rfl hd0
          obtain ⟨g4, hA4, hc4⟩ := hCE.out w5 ho3 (b + d) (by omega)
          injection hA4 with hA4
          injection hA4 with hA4 _
          subst hA4
          rw [hagd] at hc4
          have hbn : ((b : Int) + (d : Int)).toNat = b + d := by omega
          have hgt : (0 : Int) < (d : Int) := by omega
          clear HC HAG HU hCE hagd
          go_wp2
          go_roundw
          case rel => exact hid ⟨b + 1, v + 1, by omega, by go_num, by first | rfl | go_num, hnext.out, ho1, ho3, hB⟩
          case measure => simp [intOf]; omega
        · have hgt : (0 : Int) < T := by omega
          clear HC HAG HU hCE
          go_wp2
          go_roundw
          case rel => exact hid ⟨b + 1, v + 1, by omega, by go_num, by first | rfl | go_num, hnext.out, ho1, ho3, hB⟩
          case measure => simp [intOf]; omega
      · have hvn : v < nx := by rw [HNX.out]; exact h4
        have hnext : Hid (nx = (cnt p 0 (b + 1) : Nat)) := by
          show _ = _
          rw [h5, HNX.out]
        have e1 : decide (v < 0) = false := by simp; omega
        have e2 : (T == 0) = false := by simp; exact h1
        have hTp : 0 < T := by omega
        have hq1 : decide (v < (-1 : Int)) = false := by simp; omega
        have hq2 : decide (X ≤ v) = false := by simp; omega
        have hq3 : (v == nx) = false := by simp; omega
        have hq4 : decide (nx < v) = false := by simp; omega
        clear h1 h2 h4 h5
        by_cases hTN : (b : Int) + T < (N : Int)
        · obtain ⟨d, hd⟩ : ∃ d : Nat, T = (d : Int) := Int.eq_ofNat_of_zero_le hT0
          subst hd
          have hd0 : 0 < d := by omega
          have hagd := HAG.out d rfl hd0
          obtain ⟨g4, hA4, hc4⟩ := hCE.out w5 ho3 (b + d) (by omega)
          injection hA4 with hA4
          injection hA4 with hA4 _
          subst hA4
          rw [hagd] at hc4
          have hbn : ((b : Int) + (d : Int)).toNat = b + d := by omega
          have hgt : (0 : Int) < (d : Int) := by omega
          clear HC HAG HU hCE hagd
          go_wp2
          go_roundw
          case rel => exact hid ⟨b + 1, nx, by omega, by go_num, by first | rfl | go_num, hnext.out, ho1, ho3, hB⟩
          case measure => simp [intOf]; omega
        · have hgt : (0 : Int) < T := by omega
          clear HC HAG HU hCE
          go_wp2
          go_roundw
          case rel => exact hid ⟨b + 1, nx, by omega, by go_num, by first | rfl | go_num, hnext.out, ho1, ho3, hB⟩
          case measure => simp [intOf]; omega
    · have hbN : b = N := by omega
      subst hbN
      rw [cnt_top HP.out (by omega), HX.out] at hnx
      subst hnx
      clear hrel hnx0 hnx2
      go_wp2
      go_loopw [17] (fun v17 wr => Hid (∃ k : Nat, (k : Int) ≤ nx ∧ v17 = .int .i64 k ∧ wr.ownsRow w.heap.size 2 1 (.slice A1 p.length c1) p.length (ints p) ∧ wr.ownsRow w2.heap.size 2 1 (.slice A3 b c3) b (ints (prs p b)) ∧ Below w.heap.size w wr)) (fun i _ => 15 - (intOf i).toNat)
      case atStart => exact hid ⟨0, by omega, rfl, ho1, ho3, hB⟩
      case round =>
        clear ho1 ho3 hB hz3
        obtain ⟨k, hk, rfl, ho1, ho3, hB⟩ := hrel.out
        by_cases hkl : (k : Int) < nx
        · have hrT : rThrowsOfProp p (k : Int) (b : Int) = (posK (k : Int) 0 (prs p b), 0) := by
            have h1 : betweenB (b : Int) 0 200 = true := by rw [betweenB_iff]; omega
            have h2 : betweenB (k : Int) 0 (prN p - 1) = true := by rw [betweenB_iff, HX.out]; omega
            simp [rThrowsOfProp, HP.out, h1, h2]
          have hC := ThrowsOfProp_any A1 p.length c1 p (k : Int) (b : Int) wr (by omega) (Rd.of_own ho1)
          rw [hrT] at hC
          have hC := hid hC
          clear hrT hrel
          obtain ⟨hPW, hPI⟩ := posK_in (k := (k : Int)) (prs p b) 0
          have hPL := posK_len (k := (k : Int)) (prs p b) 0
          rw [prs_len] at hPL
          obtain ⟨PL, hPLe⟩ : ∃ PL, posK (k : Int) 0 (prs p b) = PL := ⟨_, rfl⟩
          rw [hPLe] at hPW hPI hPL hC
          have HPW := hid hPW
          have HPI := hid hPI
          clear hPLe hPW hPI
          go_wp2_with fail
          refine hC.out.mono ?_
          rintro e w6 ⟨v6, rfl, ho6, hb6⟩
          have ho6 : w6.ownsRow wr.heap.size 2 1 v6 PL.length (ints PL) := ho6
          obtain ⟨A6, c6, rfl⟩ := own_form ho6
          have ho1 := own_below ho1 hb6
          have ho3 := own_below ho3 hb6
          replace hB := bchain hB hb6
          clear hb6 hC
          go_wp2
          go_loopw [20] (fun v20 wx => Hid (∃ i : Nat, i ≤ PL.length ∧ v20 = .int .i64 i ∧ wx.ownsRow w.heap.size 2 1 (.slice A1 p.length c1) p.length (ints p) ∧ wx.ownsRow w2.heap.size 2 1 (.slice A3 b c3) b (ints (prs p b)) ∧ wx.ownsRow wr.heap.size 2 1 (.slice A6 PL.length c6) PL.length (ints PL) ∧ Below w.heap.size w wx)) (fun i _ => PL.length - (intOf i).toNat)
          case atStart => exact hid ⟨0, Nat.zero_le _, rfl, ho1, ho3, ho6, hB⟩
          case round =>
            clear ho1 ho3 ho6 hB
            obtain ⟨i, hi, rfl, ho1, ho3, ho6, hB⟩ := hrel.out
            by_cases hil : i < PL.length
            · obtain ⟨g6, cc6, e6, _, _⟩ := own_blk ho6 (by omega)
              injection e6 with e1 e2 e3
              subst e1
              clear e2 e3
              obtain ⟨g3, cc3, e6, _, _⟩ := own_blk ho3 (by omega)
              injection e6 with e1 e2 e3
              subst e1
              clear e2 e3
              obtain ⟨x, hx⟩ : ∃ x, PL[i]? = some x := ⟨_, List.getElem?_eq_getElem hil⟩
              obtain ⟨m, hxm, hm⟩ := HPI.out x (List.mem_of_getElem? hx)
              rw [Nat.zero_add] at hxm
              subst hxm
              have hmb : m < b := by
                have := (List.getElem?_eq_some_iff.1 hm).1
                rwa [prs_len] at this
              have hci : wr.cell? ⟨g6, i, none⟩ = some (.int .i64 (m : Int)) := by rw [ho6.cellAt i (by omega), ints, List.getElem?_map, hx]; rfl
              have hco : wr.cell? ⟨g3, m, none⟩ = some (.int .i64 (k : Int)) := by rw [ho3.cellAt m (by omega), ints, List.getElem?_map, hm]; rfl
              have hkk : ((k : Int) != (k : Int)) = false := by simp
              have hm0 : decide ((m : Int) < 0) = false := by simp
              have hm1 : decide ((b : Int) ≤ (m : Int)) = false := by simp; omega
              have hm2 : decide (b ≤ m) = false := by simp; omega
              have hmn : (m : Int).toNat = m := by omega
              have HO6 := hid ho6
              have HO3 := hid ho3
              have HO1 := hid ho1
              have HBB := hid hB
              by_cases hi0 : 0 < i
              · obtain ⟨y, hy⟩ : ∃ y, PL[i - 1]? = some y := ⟨_, List.getElem?_eq_getElem (by omega)⟩
                have hyx := pw_at HPW.out (show i - 1 < i by omega) hy hx
                have hcj : wr.cell? ⟨g6, i - 1, none⟩ = some (.int .i64 y) := by rw [ho6.cellAt (i - 1) (by omega), ints, List.getElem?_map, hy]; rfl
                have hq2 : decide ((m : Int) ≤ y) = false := by simp; omega
                clear ho6 ho3 ho1 hB hx hy hm hyx hrel
                go_wp2
                go_quiet (fail)
                go_wp2
                go_roundw
                case rel => exact hid ⟨i + 1, by omega, by go_num, own_drewN HO1.out, own_drewN HO3.out, own_drewN HO6.out, below_drewN HBB.out _⟩
                case measure => simp [intOf]; omega
              · have hi00 : i = 0 := by omega
                subst hi00
                clear ho6 ho3 ho1 hB hx hm hrel
                go_wp2
                go_quiet (fail)
                go_wp2
                go_roundw
                case rel => exact hid ⟨1, by omega, by go_num, own_drewN HO1.out, own_drewN HO3.out, own_drewN HO6.out, below_drewN HBB.out _⟩
                case measure => simp [intOf]; omega
            · clear hrel ho6
              go_wp2
              go_roundw
              case rel => exact hid ⟨k + 1, by omega, by go_num, ho1, ho3, hB⟩
              case measure => simp [intOf]; omega
        · have hkn : (k : Int) = nx := by omega
          have hxx : (nx == nx) = true := by simp
          clear hrel
          go_wp2
          go_ret
          exact ⟨rfl, hB⟩
set_option maxRecDepth 100000 in
theorem fnProps_walk (w : World) (A : Option Addr) (n c : Nat) (xs : List Int) (hK : Came .u8 w A n c xs) (A' : Option Addr) (n' c' : Nat) (xs' : List Int) (hK' : Came .u8 w A' n' c' xs') :
    Calls Try.prog 11 #[.slice A n c, .slice A' n' c'] w fun e w' => e = .returned (.bool true) ∧ Below w.heap.size w w' := by
  by_cases h : n ≤ 3000 ∧ n' ≤ 3000
  · exact fnProps_main w A n c xs hK A' n' c' xs' hK' h.1 h.2
  · have hq : (decide (3000 < n) || decide (3000 < n')) = true := by simp; omega
    have h1 := hK.2.1; have h2 := hK.2.2.1; have h3 := hK'.2.1; have h4 := hK'.2.2.1
    unfold maxLen at h2 h4
    have hL := a2Long_any A A' n c n' c' w (by omega) (by omega)
    rw [hq] at hL
    have hL := hid hL
    clear hK hK' h hq
    go_enter Try.func11, Try.ntmps11
    go_wp2_with (go_at_call 37; refine (hL.out).mono ?_; rintro e w' ⟨rfl, rfl⟩)
    go_ret
    exact ⟨rfl, (by repeat' (first | exact Below.refl _ _ | (with_reducible assumption) | (with_reducible refine Below.alloc ?_ ?_ _) | (with_reducible refine Below.setCell ?_ ?_ _) | (with_reducible refine Below.drew ?_) | (with_reducible refine below_drewN ?_ _) | (refine Below.trans ?_ (Below.mono (by assumption) ?_)) | (with_reducible exact Nat.le_refl _) | (with_reducible assumption) | (exact Below.size (by assumption)) | omega | go_size | (simp at *; omega)))⟩
end Go.Proofs.Yteaabniemlnjbaa
