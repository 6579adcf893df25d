/- The walk of the law FnOrbits. -/
import Derived.Test.YteaabniemlnjbaaPx
import Derived.Test.YteaabniemlnjbaaLa
import Derived.Test.YteaabniemlnjbaaDw
import Derived.Test.YteaabniemlnjbaaOx
import Derived.Test.YteaabniemlnjbaaOl
import Derived.Test.YteaabniemlnjbaaOs
import Derived.Test.YteaabniemlnjbaaOo
import Derived.Test.YteaabniemlnjbaaGl
namespace Go.Proofs.Yteaabniemlnjbaa
open Go.RowKit
set_option linter.unusedVariables false

theorem own_off2 {w : World} {b e s n : Nat} {v : Value} {xs : List Value} (h : w.ownsRow b e s v n xs) {g : Nat} (hg : g < b) (i : Nat) (u : Value) : (w.setCell ⟨g, i, none⟩ u).ownsRow b e s v n xs :=
  ownsRow_setCell_other h (by
    intro e
    have := (h.lt g e).1
    omega) u
theorem take_list (new old : List Int) (i : Nat) (y : Int) (hy : new[i]? = some y) (h : i < old.length) : (ints (new.take i) ++ (ints old).drop i).set i (.int .i64 y) = ints (new.take (i + 1)) ++ (ints old).drop (i + 1) :=
  take_step new (ints old) i y hy (by simpa [ints] using h)
theorem mix_at {new old : List Int} {i : Nat} (hn : i ≤ new.length) (ho : i < old.length) : (ints (new.take i) ++ (ints old).drop i)[i]? = some (.int .i64 (old.getD i 0)) := by
  have hl : (ints (new.take i)).length = i := by rw [ints, List.length_map, List.length_take]; omega
  rw [List.getElem?_append_right (by omega), hl, Nat.sub_self, List.getElem?_drop, Nat.add_zero]
  exact ints_at ho
theorem own_drewD {w : World} {base e sz n : Nat} {v : Value} {xs : List Value} (h : w.ownsRow base e sz v n xs) : w.drew.ownsRow base e sz v n xs := h
set_option maxRecDepth 100000 in
theorem fnOrbits_long (w : World) (A : Option Addr) (n c : Nat) (hL : Hid (Calls Try.prog 37 #[.slice A n c, .slice none 0 0] w fun e w' => e = .returned (.bool true) ∧ w = w')) :
    Calls Try.prog 12 #[.slice A n c] w fun e w' => e = .returned (.bool true) ∧ Below w.heap.size w w' := by
  go_enter Try.func12, Try.ntmps12
  go_wp2_with (go_at_call 37; refine (hL.out).mono ?_; rintro e w' ⟨rfl, rfl⟩)
  go_ret
  exact ⟨rfl, (by repeat' (first | exact Below.refl _ _ | (with_reducible assumption) | (with_reducible refine Below.alloc ?_ ?_ _) | (with_reducible refine Below.setCell ?_ ?_ _) | (with_reducible refine Below.drew ?_) | (with_reducible refine below_drewN ?_ _) | (refine Below.trans ?_ (Below.mono (by assumption) ?_)) | (with_reducible exact Nat.le_refl _) | (with_reducible assumption) | (exact Below.size (by assumption)) | omega | go_size | (simp at *; omega)))⟩
set_option maxRecDepth 100000 in
set_option maxHeartbeats 8000000 in
theorem fnOrbits_main (w : World) (A : Option Addr) (n c : Nat) (xs : List Int) (hK : Came .u8 w A n c xs) (hl : n ≤ 3000) :
    Calls Try.prog 12 #[.slice A n c] w fun e w' => e = .returned (.bool true) ∧ Below w.heap.size w w' := by
  have hq : (decide (3000 < n) || decide (3000 < 0)) = false := by simp; omega
  have hL := a2Long_any A none n c 0 0 w (by omega) (by omega)
  rw [hq] at hL
  have hL := hid hL
  have hD := hid (A2Pattern_any A n c xs w (by omega) hK.bytes (Rd.of_came hK))
  clear hK hq
  go_enter Try.func12, Try.ntmps12
  go_wp2_with (go_at_call 37; refine (hL.out).mono ?_; rintro e w' ⟨rfl, rfl⟩)
  refine hD.out.mono ?_
  rintro e w1 ⟨v1, rfl, ⟨p, hp, ho1⟩, hB⟩
  obtain ⟨A1, c1, rfl⟩ := own_form ho1
  obtain ⟨hpb, hn1, hn2⟩ := thOk_iff (okP_th hp)
  have hPb := prN_bd hp
  have hHb := hiT_bd (okP_th hp)
  have hSum := orbPs_sum hp
  have hPB := orbProp_bd hp
  have hFsm := (fpN_small (orbPs p) 1 small_one hPB).le
  have hFd := (fpN_dvd (orbPs p) 1).2
  obtain ⟨X, hX⟩ : ∃ X, prN p = X := ⟨_, rfl⟩
  obtain ⟨NO, hNO⟩ : ∃ NO, (orbs p).length = NO := ⟨_, rfl⟩
  obtain ⟨fp, hfp⟩ : ∃ fp, fpN (orbPs p) 1 = fp := ⟨_, rfl⟩
  obtain ⟨Fv, hFv⟩ : ∃ Fv, ((fp : Nat) : Int) * (p.length : Int) = Fv := ⟨_, rfl⟩
  have hNOb : NO ≤ 12 := by have := orbs_len p; omega
  rw [hX] at hPb hSum
  rw [hfp] at hFsm hFd
  obtain ⟨hX0, hX1⟩ := hPb
  have hX2 : X ≤ 15 := by omega
  have hFv0 : (p.length : Int) ≤ Fv := by
    have : 1 * (p.length : Int) ≤ (fp : Int) * (p.length : Int) := Int.mul_le_mul_of_nonneg_right (by omega) (by omega)
    omega
  have hFv1 : Fv ≤ 360360 * 12 := by
    have h1 : (fp : Int) * (p.length : Int) ≤ 360360 * (p.length : Int) := Int.mul_le_mul_of_nonneg_right (by omega) (by omega)
    omega
  have hf1 : decide (Fv < (p.length : Int)) = false := by simp; omega
  have hf2 : (Fv % (p.length : Int) != 0) = false := by rw [← hFv, Int.mul_emod_left]; rfl
  have hfm := hid (fun (m : Int) (hm : m ∈ orbPs p) (h0 : 0 < m) => show (Fv % (m * (p.length : Int)) != 0) = false from by
    have h1 := hFd m hm h0
    have h2 : m ∣ (fp : Int) := by
      have := Int.natCast_dvd_natCast.2 h1
      rwa [Int.toNat_of_nonneg (by omega)] at this
    have h3 : m * (p.length : Int) ∣ Fv := by rw [← hFv]; exact Int.mul_dvd_mul_right _ h2
    rw [Int.emod_eq_zero_of_dvd h3]; rfl)
  have HX := hid hX
  have HP := hid hp
  have HPB := hid hpb
  have HSum := hid hSum
  have HOB := hid hPB
  have HNO := hid hNO
  have HFV := hid hFv
  have HFP := hid hfp
  clear hD hL hp hpb hX hSum hPB hFsm hFd hFv hfp hHb
  go_wp2_with fail
  have hC := specPropsOf_ok A1 p.length c1 p w1 HP.out (Rd.of_own ho1)
  rw [HX.out] at hC
  refine hC.mono ?_
  clear hC
  rintro e w2 ⟨rfl, hb2⟩
  have ho1 := own_below ho1 hb2
  replace hB := bchain hB hb2
  clear hb2
  go_wp2_with fail
  have hC := OrbitsOf_any A1 p.length c1 p w2 (by omega) (Rd.of_own ho1)
  rw [show rOrbitsOf p = (orbs p, 0) by simp [rOrbitsOf, HP.out]] at hC
  refine hC.mono ?_
  clear hC
  rintro e w3 ⟨v3, rfl, hG3, hb3⟩
  have hG3 : Grid w3 w2.heap.size w3.heap.size v3 (orbs p) := hG3
  obtain ⟨A3, c3, hv3⟩ := Grid.form hG3
  rw [HNO.out] at hv3
  subst hv3
  have ho1 := own_below ho1 hb3
  replace hB := bchain hB hb3
  clear hb3
  go_wp2_with fail
  have hC := OrbitProps_any A1 p.length c1 p w3 (by omega) (Rd.of_own ho1)
  rw [show rOrbitProps p = (orbPs p, 0) by simp [rOrbitProps, HP.out]] at hC
  refine hC.mono ?_
  clear hC
  rintro e w4 ⟨v4, rfl, ho4, hb4⟩
  have ho4 : w4.ownsRow w3.heap.size 2 1 v4 (orbPs p).length (ints (orbPs p)) := ho4
  rw [show (orbPs p).length = NO by rw [orbPs, List.length_map, HNO.out]] at ho4
  obtain ⟨A4, c4, rfl⟩ := own_form ho4
  have ho1 := own_below ho1 hb4
  have hG3 := Grid.below hG3 hb4
  replace hB := bchain hB hb4
  clear hb4
  go_wp2_with fail
  have hC := FullPeriod_any A1 p.length c1 p w4 (by omega) (Rd.of_own ho1)
  rw [show rFullPeriod p = (Fv, 0) by simp [rFullPeriod, HP.out, HFP.out, HFV.out]] at hC
  refine hC.mono ?_
  clear hC
  rintro e w5 ⟨rfl, hb5⟩
  have ho1 := own_below ho1 hb5
  have ho4 := own_below ho4 hb5
  have hG3 := Grid.below hG3 hb5
  replace hB := bchain hB hb5
  clear hb5
  have hC := a2Sum_any A4 NO c4 (orbPs p) w5 (by omega) (fun x hx => by have := HOB.out x hx; omega) (Rd.of_own ho4)
  rw [HSum.out] at hC
  have hC := hid hC
  have hXX : (X != X) = false := by simp
  go_wp2_with fail
  refine hC.out.mono ?_
  rintro e w' ⟨rfl, rfl⟩
  clear hC
  have hR3 := hid (Grid.read hG3)
  have HO1 := hid ho1
  have HO4 := hid ho4
  have hz5 := hB.size
  have HBT := hid hB
  clear ho1 ho4 hG3
  go_wp2_with (first | (at_make; refine make_own w5.heap.size Try.underlying22 inf_int rfl rfl (.tmp 86) (.tmp 86) rfl .i64 .i64 p.length rfl rfl (by omega) (by omega) (Nat.le_refl _) ?_; intro w6 ho6 hb6 hlt6; rw [ints_zero] at ho6; have hz6 := hb6.size) | (at_make; refine make_own w6.heap.size Try.underlying53 inf_bool rfl rfl (.tmp 89) (.tmp 89) rfl .i64 .i64 p.length rfl rfl (by omega) (by omega) (Nat.le_refl _) ?_; intro w7 ho7 hb7 hlt7; rw [bools_nil] at ho7))
  have ho6 := own_below ho6 hb7
  have hBW : Below w5.heap.size w5 w7 := hb6.trans (hb7.mono hz6)
  have hB7 : Below w.heap.size w w7 := bchain hB hBW
  clear hb6 hb7
  have hO0 : List.replicate p.length (0 : Int) = orbPat p (natI (firstO p 0)) := rfl
  rw [hO0] at ho6
  clear hO0
  go_loopw [14] (fun v14 wr => Hid (∃ (k : Nat) (s : List Nat), k ≤ NO ∧ v14 = .int .i64 k ∧ (∀ x, x ∈ s ↔ x ∈ firstO p k) ∧ wr.ownsRow w5.heap.size 2 1 (.slice (some ⟨w5.heap.size, 0, none⟩) p.length p.length) p.length (ints (orbPat p (natI (firstO p k)))) ∧ wr.ownsRow w6.heap.size 4 1 (.slice (some ⟨w6.heap.size, 0, none⟩) p.length p.length) p.length (bools p.length s) ∧ Below w5.heap.size w5 wr)) (fun i _ => NO - (intOf i).toNat)
  case atStart => exact hid ⟨0, [], Nat.zero_le _, rfl, (fun x => by simp [firstO]), ho6, ho7, hBW⟩
  case round =>
    clear ho6 ho7 hBW hB7
    obtain ⟨k, s, hk, rfl, hs, ho6, ho7, hBW⟩ := hrel.out
    clear hrel
    have hzr := hBW.size
    have hzr2 : w5.heap.size < wr.heap.size := by have h2 : w6.heap.size < wr.heap.size := (ho7.lt w6.heap.size rfl).2; omega
    have ho1 := own_below HO1.out hBW
    by_cases hkl : k < NO
    · obtain ⟨g3, off3, row, Ai, ci, rfl, hg3, hrow, _, hc3, hrd3⟩ := (hR3.out.below hBW (Nat.le_refl _)).at_ hkl
      obtain ⟨r, hr, hre⟩ := orbs_get hrow
      obtain ⟨g1, g2, gx, g4⟩ := orbs_all HP.out
      have hrm := List.mem_of_getElem? hr
      have hrn := nodup_row g1 hrm
      have hrb : ∀ x ∈ r, x < p.length := fun x hx => g2 x (List.mem_flatten.2 ⟨r, hrm, hx⟩)
      have hrc := g4 r hrm
      have hrl : r.length ≤ 12 := by have := nodup_len hrn hrb; omega
      have hrlen : row.length = r.length := by rw [hre, natI_len]
      have hM1 : (orbPs p)[k]? = some (orbProp p (natI r)) := by rw [orbPs, List.getElem?_map, hrow, hre]; rfl
      have hMm := List.mem_of_getElem? hM1
      have hMb := HOB.out _ hMm
      have hMp := orbPat_props hrn hrb
      have hOk := hid (orbPat_ok HP.out hrc)
      obtain ⟨M, hM⟩ : ∃ M, orbProp p (natI r) = M := ⟨_, rfl⟩
      rw [hM] at hM1 hMm hMb hMp
      obtain ⟨hM0, hM15⟩ := hMb
      have hMN0 : 0 ≤ M * (p.length : Int) := Int.mul_nonneg hM0 (by omega)
      have hMN1 : M * (p.length : Int) ≤ 180 := by
        have : M * (p.length : Int) ≤ 15 * (p.length : Int) := Int.mul_le_mul_of_nonneg_right hM15 (by omega)
        omega
      have hc4 : ∃ g4, A4 = some ⟨g4, 0, none⟩ ∧ wr.cell? ⟨g4, k, none⟩ = some (.int .i64 M) := by
        obtain ⟨g4, cc4, e4, hg4a, hg4b⟩ := own_blk HO4.out (by omega)
        injection e4 with e1 _ _
        refine ⟨g4, e1, ?_⟩
        rw [hBW.cell (p := ⟨g4, k, none⟩) hg4b]
        subst e1
        rw [HO4.out.cellAt k (by omega), ints, List.getElem?_map, hM1]; rfl
      obtain ⟨g4, rfl, hc4⟩ := hc4
      have HC3 := hid (fun (wy : World) (b : Below w5.heap.size w5 wy) => show wy.cell? ⟨g3, off3 + k, none⟩ = some (.slice Ai row.length ci) from by
        have h1 := hBW.cell (p := ⟨g3, off3 + k, none⟩) hg3
        have h2 := b.cell (p := ⟨g3, off3 + k, none⟩) hg3
        rw [h2, ← h1]; exact hc3)
      have HRD := hid (fun (wy : World) (b : Below w5.heap.size w5 wy) => show Rd wy w5.heap.size 1 Ai row.length (ints row) from hrd3.keep fun q hq => (b.cell hq).trans (hBW.cell hq).symm)
      have hFM := hid (hfm.out M hMm)
      have HMP := hid hMp
      have HR := hid hr
      have HRN := hid hrn
      have HRB := hid hrb
      have HRE := hid hre
      have HRL := hid hrlen
      have HS := hid hs
      have HROW := hid hrow
      have hOP := OrbitPattern_any A1 p.length c1 p (k : Int) wr (by omega) (Rd.of_own ho1)
      have hrOP : rOrbitPattern p (k : Int) = (orbPat p (natI r), 0) := by
        have h1 : betweenB (k : Int) 0 (((orbs p).length : Int) - 1) = true := by rw [betweenB_iff, HNO.out]; omega
        have h2 : (orbs p).getD ((k : Int)).toNat [] = natI r := by rw [Int.toNat_natCast, List.getD_eq_getElem?_getD, hrow, hre]; rfl
        simp only [rOrbitPattern, HP.out, if_true, h1, h2]
      rw [hrOP] at hOP
      have hOP := hid hOP
      clear hrOP hM hM1 hMm hMp hre hr hrm hrn hrb hrc hs g1 g2 gx hrow hrlen
      go_wp2_with fail
      refine hOP.out.mono ?_
      rintro e w8 ⟨v8, rfl, ho8, hb8⟩
      have ho8 : w8.ownsRow wr.heap.size 2 1 v8 (orbPat p (natI r)).length (ints (orbPat p (natI r))) := ho8
      rw [orbPat_len] at ho8
      obtain ⟨g8, c8, rfl, hg8, hg8b⟩ := own_blk ho8 (by omega)
      have ho6 := own_below ho6 hb8
      have ho7 := own_below ho7 hb8
      replace hBW := bchain hBW hb8
      have hc3 : w8.cell? ⟨g3, off3 + k, none⟩ = some (.slice Ai row.length ci) := (hb8.cell (p := ⟨g3, off3 + k, none⟩) (by show g3 < _; omega)).trans hc3
      have hc4 : w8.cell? ⟨g4, k, none⟩ = some (.int .i64 M) := by
        obtain ⟨_, _, e4, _, hg4b⟩ := own_blk HO4.out (by omega)
        injection e4 with e1 _ _
        injection e1 with e1
        injection e1 with e1 _ _
        rw [hb8.cell (p := ⟨g4, k, none⟩) (by show g4 < _; omega)]; exact hc4
      have hrd3 := hrd3.below hb8 (by omega)
      clear hb8 hOP
      have hCq := specPropsOf_ok (some ⟨g8, 0, none⟩) p.length c8 (orbPat p (natI r)) w8 hOk.out (Rd.of_own ho8)
      rw [HMP.out] at hCq
      have hCq := hid hCq
      go_wp2_with fail
      refine hCq.out.mono ?_
      rintro e w9 ⟨rfl, hb9⟩
      have ho6 := own_below ho6 hb9
      have ho7 := own_below ho7 hb9
      have ho8 := own_below ho8 hb9
      have hz8 := hBW.size
      replace hBW := bchain hBW hb9
      have hc3 : w9.cell? ⟨g3, off3 + k, none⟩ = some (.slice Ai row.length ci) := (hb9.cell (p := ⟨g3, off3 + k, none⟩) (by show g3 < _; omega)).trans hc3
      have hc4 : w9.cell? ⟨g4, k, none⟩ = some (.int .i64 M) := by
        obtain ⟨_, _, e4, _, hg4b⟩ := own_blk HO4.out (by omega)
        injection e4 with e1 _ _
        injection e1 with e1
        injection e1 with e1 _ _
        rw [hb9.cell (p := ⟨g4, k, none⟩) (by show g4 < _; omega)]; exact hc4
      have hrd3 := hrd3.below hb9 (by omega)
      have hz9 := hBW.size
      clear hb9 hCq
      have hMM : (M != M) = false := by simp
      obtain ⟨BR, hBR⟩ : ∃ BR, wr.heap.size = BR := ⟨_, rfl⟩
      rw [hBR] at ho8 hzr2
      have hBRl : w5.heap.size < BR := hzr2
      clear hBR
      have hbr : (0 < M ∧ (Fv % (M * (p.length : Int)) != 0) = false ∧ 1 ≤ M * (p.length : Int)) ∨ ¬ 0 < M := by
        by_cases h : 0 < M
        · left
          refine ⟨h, hFM.out h, ?_⟩
          have : 1 * (p.length : Int) ≤ M * (p.length : Int) := Int.mul_le_mul_of_nonneg_right (by omega) (by omega)
          omega
        · exact .inr h
      have HAD := hid (fun (j : Nat) (hj : j < p.length) => orbPat_add HP.out HR.out hj)
      have HBO := hid (fun (j : Nat) (hj : j < p.length) => orbPat_bd HP.out (firstO p k) hj)
      have HBQ := hid (fun (j : Nat) (hj : j < p.length) => orbPat_bd HP.out r hj)
      have hlo := hid (orbPat_len p (natI (firstO p k)))
      have hln := hid (orbPat_len p (natI (firstO p (k + 1))))
      have hlq := hid (orbPat_len p (natI r))
      rcases hbr with ⟨hm1, hm2, hm3⟩ | hm1
      all_goals
        go_wp2
        go_loopw [19] (fun v19 wx => Hid (∃ i : Nat, i ≤ p.length ∧ v19 = .int .i64 i ∧ wx.ownsRow w5.heap.size 2 1 (.slice (some ⟨w5.heap.size, 0, none⟩) p.length p.length) p.length (ints ((orbPat p (natI (firstO p (k + 1)))).take i) ++ (ints (orbPat p (natI (firstO p k)))).drop i) ∧ wx.ownsRow w6.heap.size 4 1 (.slice (some ⟨w6.heap.size, 0, none⟩) p.length p.length) p.length (bools p.length s) ∧ wx.ownsRow BR 2 1 (.slice (some ⟨g8, 0, none⟩) p.length c8) p.length (ints (orbPat p (natI r))) ∧ Below w5.heap.size w5 wx)) (fun i _ => p.length - (intOf i).toNat)
        case atStart => exact hid ⟨0, Nat.zero_le _, rfl, (by simp only [List.take_zero, List.drop_zero]; exact ho6), ho7, ho8, hBW⟩
        case round =>
          clear ho6 ho7 ho8 hBW
          obtain ⟨i, hi, rfl, ho6, ho7, ho8, hBW⟩ := hrel.out
          clear hrel
          by_cases hil : i < p.length
          · have hx6 := ho6.cellAt i (by omega)
            rw [mix_at (by rw [hln.out]; omega) (by rw [hlo.out]; exact hil)] at hx6
            have hx8 := ho8.cellAt i (by omega)
            rw [ints_at (by rw [hlq.out]; exact hil)] at hx8
            have hf6 := ho6.frozenAt i
            obtain ⟨x0, x1⟩ := HBO.out i hil
            obtain ⟨y0, y1⟩ := HBQ.out i hil
            have hnew : (orbPat p (natI (firstO p (k + 1))))[i]? = some ((orbPat p (natI (firstO p k))).getD i 0 + (orbPat p (natI r)).getD i 0) := by
              rw [← HAD.out i hil, List.getD_eq_getElem?_getD, List.getElem?_eq_getElem (by rw [hln.out]; exact hil)]; rfl
            obtain ⟨x, hx⟩ : ∃ x, (orbPat p (natI (firstO p k))).getD i 0 = x := ⟨_, rfl⟩
            obtain ⟨y, hy⟩ : ∃ y, (orbPat p (natI r)).getD i 0 = y := ⟨_, rfl⟩
            rw [hx] at hx6 x0 x1 hnew
            rw [hy] at hx8 y0 y1 hnew
            have hwr : IntKind.i64.wrap (x + y) = x + y := IntWalk.i64_in _ (by omega)
            obtain ⟨ho9, hg9⟩ := ho6.stored i (.int .i64 (x + y))
            rw [take_list _ _ i _ hnew (by rw [hlo.out]; exact hil)] at ho9
            have HO9 := hid ho9
            have HO7 := hid (own_types ho7 ho6 (by decide) hg9)
            have HO8 := hid (own_off2 ho8 (g := w5.heap.size) hBRl i (.int .i64 (x + y)))
            have HB9 : Hid (Below w5.heap.size w5 (wr.setCell ⟨w5.heap.size, i, none⟩ (.int .i64 (x + y)))) := Below.setCell hBW (Nat.le_refl _) _
            clear ho6 ho7 ho8 hBW ho9 hg9 hnew hx hy
            go_wp2
            go_region
            go_simp
            go_wp2
            go_roundw
            case rel => exact hid ⟨i + 1, by omega, by go_num, own_drewD HO9.out, own_drewD HO7.out, own_drewD HO8.out, HB9.out.drew⟩
            case measure => simp [intOf]; omega
          · have hin : i = p.length := by omega
            subst hin
            rw [List.take_of_length_le (by rw [hln.out]; exact Nat.le_refl _), List.drop_eq_nil_of_le (by rw [ints, List.length_map, hlo.out]; exact Nat.le_refl _), List.append_nil] at ho6
            have hst3 : ∀ x, x ∈ s ↔ x ∈ firstO p k ∨ x ∈ r.take 0 := fun x => by rw [HS.out x]; simp
            have HST3 := hid hst3
            clear ho8 hst3
            go_wp2
            go_loopw [20] (fun v20 wx => Hid (∃ (i : Nat) (s' : List Nat), i ≤ row.length ∧ v20 = .int .i64 i ∧ (∀ x, x ∈ s' ↔ x ∈ firstO p k ∨ x ∈ r.take i) ∧ wx.ownsRow w5.heap.size 2 1 (.slice (some ⟨w5.heap.size, 0, none⟩) p.length p.length) p.length (ints (orbPat p (natI (firstO p (k + 1))))) ∧ wx.ownsRow w6.heap.size 4 1 (.slice (some ⟨w6.heap.size, 0, none⟩) p.length p.length) p.length (bools p.length s') ∧ Below w5.heap.size w5 wx)) (fun i _ => row.length - (intOf i).toNat)
            case atStart => exact hid ⟨0, s, Nat.zero_le _, rfl, HST3.out, ho6, ho7, hBW⟩
            case round =>
              clear ho6 ho7 hBW
              obtain ⟨i, s', hi, rfl, hs', ho6, ho7, hBW⟩ := hrel.out
              clear hrel
              have hc3' : wr.cell? ⟨g3, off3 + k, none⟩ = some (.slice Ai row.length ci) := HC3.out wr hBW
              by_cases hil : i < row.length
              · have hir : i < r.length := by rw [← HRL.out]; exact hil
                obtain ⟨a, ha⟩ : ∃ a, r[i]? = some a := ⟨_, List.getElem?_eq_getElem hir⟩
                have ham := List.mem_of_getElem? ha
                have hab := HRB.out a ham
                have hrow_i : row[i]? = some (a : Int) := by rw [HRE.out, natI, List.getElem?_map, ha]; rfl
                obtain ⟨gi, offi, ai, hAi, hgi, hri, _, hci⟩ := (HRD.out wr hBW).at_ hil
                subst hAi
                have hai : ai = (a : Int) := by rw [hrow_i] at hri; exact (Option.some.inj hri).symm
                subst hai
                have hnot : a ∉ s' := by
                  intro h
                  rcases (hs' a).1 h with h | h
                  · exact firstO_dis HP.out HR.out ham h
                  · obtain ⟨j, hj⟩ := List.getElem?_of_mem h
                    have hji : j < i := by
                      have := (List.getElem?_eq_some_iff.1 hj).1
                      rw [List.length_take] at this; omega
                    rw [List.getElem?_take_of_lt hji] at hj
                    obtain ⟨j1, e1⟩ := List.getElem?_eq_some_iff.1 hj
                    obtain ⟨i1, e2⟩ := List.getElem?_eq_some_iff.1 ha
                    have := (List.getElem_inj HRN.out).1 (e1.trans e2.symm)
                    omega
                have hs2 : ∀ x, x ∈ a :: s' ↔ x ∈ firstO p k ∨ x ∈ r.take (i + 1) := by
                  intro x
                  rw [List.take_add_one, ha, List.mem_cons, hs' x]
                  simp only [Option.toList, List.mem_append, List.mem_singleton]
                  constructor
                  · rintro (h | h | h)
                    · exact .inr (.inr h)
                    · exact .inl h
                    · exact .inr (.inl h)
                  · rintro (h | h | h)
                    · exact .inr (.inl h)
                    · exact .inr (.inr h)
                    · exact .inl h
                have hcs : wr.cell? ⟨w6.heap.size, a, none⟩ = some (.bool false) := by
                  rw [ho7.cellAt a (by omega), bools_at hab, decide_eq_false hnot]
                have hfs := ho7.frozenAt a
                obtain ⟨ho9, hg9⟩ := ho7.stored a (.bool true)
                rw [bools_set hab] at ho9
                have hHB : Below w5.heap.size w5 (wr.setCell ⟨w6.heap.size, a, none⟩ (.bool true)) := Below.setCell hBW hz6 _
                have hOr := OrbitOf_any A1 p.length c1 p (a : Int) (wr.setCell ⟨w6.heap.size, a, none⟩ (.bool true)) (by omega) (Rd.of_own (own_below HO1.out hHB))
                rw [orbitOf_row HP.out HR.out ham] at hOr
                have hOr := hid hOr
                have HO9 := hid ho9
                have HO6 := hid (own_types ho6 ho7 (by decide) hg9)
                have HBX := hid hHB
                have HS2 := hid hs2
                have hkk : ((k : Int) != (k : Int)) = false := by simp
                clear ho6 ho7 ho9 hg9 hHB hs2 hs' hnot hrow_i hri ha ham
                go_wp2_with fail
                refine hOr.out.mono ?_
                rintro e w10 ⟨rfl, hb10⟩
                go_wp2
                go_roundw
                case rel => exact hid ⟨i + 1, a :: s', by omega, by go_num, HS2.out, own_below HO6.out hb10, own_below HO9.out hb10, bchain HBX.out hb10⟩
                case measure => simp [intOf]; omega
              · have hs2 : ∀ x, x ∈ s' ↔ x ∈ firstO p (k + 1) := by
                  intro x
                  rw [hs' x, List.take_of_length_le (by rw [← HRL.out]; omega), firstO_step HR.out, List.mem_append]
                have HS2 := hid hs2
                clear hs' hs2
                go_wp2
                go_roundw
                case rel => exact hid ⟨k + 1, s', by omega, by go_num, HS2.out, ho6, ho7, hBW⟩
                case measure => simp [intOf]; omega
    · have hall : orbPat p (natI (firstO p k)) = p := orbPat_all HP.out (by
        have h1 := HNO.out
        rw [orbs, List.length_map] at h1
        omega)
      have hsall : ∀ x, x < p.length → x ∈ s := fun x hx => by
        rw [hs x, firstO_all p (by
          have h1 := HNO.out
          rw [orbs, List.length_map] at h1
          omega)]
        exact (orbs_all HP.out).2.2.1 x hx
      rw [hall] at ho6
      have HSA := hid hsall
      clear hs hall hsall
      go_wp2
      go_loopw [24] (fun v24 wx => Hid (∃ i : Nat, i ≤ p.length ∧ v24 = .int .i64 i ∧ wx.ownsRow w5.heap.size 2 1 (.slice (some ⟨w5.heap.size, 0, none⟩) p.length p.length) p.length (ints p) ∧ wx.ownsRow w6.heap.size 4 1 (.slice (some ⟨w6.heap.size, 0, none⟩) p.length p.length) p.length (bools p.length s) ∧ Below w5.heap.size w5 wx)) (fun i _ => p.length - (intOf i).toNat)
      case atStart => exact hid ⟨0, Nat.zero_le _, rfl, ho6, ho7, hBW⟩
      case round =>
        clear ho6 ho7 hBW ho1 hzr
        obtain ⟨i, hi, rfl, ho6, ho7, hBW⟩ := hrel.out
        clear hrel
        by_cases hil : i < p.length
        · have hcs : wr.cell? ⟨w6.heap.size, i, none⟩ = some (.bool true) := by
            rw [ho7.cellAt i (by omega), bools_at hil, decide_eq_true (HSA.out i hil)]
          go_wp2
          go_roundw
          case rel => exact hid ⟨i + 1, by omega, by go_num, ho6, ho7, hBW⟩
          case measure => simp [intOf]; omega
        · have ho1 := own_below HO1.out hBW
          have hC := a2Same_any (some ⟨w5.heap.size, 0, none⟩) A1 p.length p.length p.length c1 p p wr (by omega) (by omega) (Rd.of_own ho6) (Rd.of_own ho1)
          rw [decide_eq_true rfl] at hC
          have hC := hid hC
          go_wp2_with fail
          refine hC.out.mono ?_
          rintro e w11 ⟨rfl, hb11⟩
          go_wp2
          go_ret
          exact ⟨rfl, bchain (bchain HBT.out hBW) hb11⟩
theorem fnOrbits_walk (w : World) (A : Option Addr) (n c : Nat) (xs : List Int) (hK : Came .u8 w A n c xs) :
    Calls Try.prog 12 #[.slice A n c] w fun e w' => e = .returned (.bool true) ∧ Below w.heap.size w w' := by
  by_cases h : n ≤ 3000
  · exact fnOrbits_main w A n c xs hK h
  · have hq : (decide (3000 < n) || decide (3000 < 0)) = true := by simp; omega
    have h1 := hK.2.1; have h2 := hK.2.2.1
    unfold maxLen at h2
    have hL := a2Long_any A none n c 0 0 w (by omega) (by omega)
    rw [hq] at hL
    have hL := hid hL
    clear hK h hq
    exact fnOrbits_long w A n c hL
end Go.Proofs.Yteaabniemlnjbaa
