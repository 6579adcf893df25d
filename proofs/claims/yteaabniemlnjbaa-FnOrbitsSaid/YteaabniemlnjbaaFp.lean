/- Contracts of FullPeriod, and the walk of its law. -/
import Derived.Test.YteaabniemlnjbaaOs
import Derived.Test.YteaabniemlnjbaaGc
namespace Go.Proofs.Yteaabniemlnjbaa
open Go.RowKit
set_option linter.unusedVariables false

theorem sumAt_bd {p : List Int} (h : thOk p = true) : ∀ row : List Int, 0 ≤ sumAt p row ∧ sumAt p row ≤ 15 * row.length := by
  intro row
  induction row with
  | nil => simp [sumAt]
  | cons k r ih =>
    have := getD_bd h k.toNat
    simp only [sumAt, List.length_cons]; omega
theorem orbProp_bd {p : List Int} (h : okP p = true) : ∀ m ∈ orbPs p, 0 ≤ m ∧ m ≤ 15 := by
  intro m hm
  obtain ⟨row, hr, rfl⟩ := List.mem_map.1 (show m ∈ (orbs p).map (orbProp p) from hm)
  have h1 := sumAt_bd (okP_th h) row
  have h2 := orbs_row row hr
  have h3 := (thOk_iff (okP_th h)).2.1
  unfold orbProp
  have hn : (0 : Int) < p.length := by omega
  exact ⟨Int.ediv_nonneg h1.1 (by omega), by
    have : sumAt p row / (p.length : Int) < 16 := Int.ediv_lt_of_lt_mul hn (by omega)
    omega⟩
/-- The common multiple of those of a list that are not 0. -/
def fpN : List Int → Nat → Nat
  | [], c => c
  | m :: ms, c => fpN ms (if 0 < m then Nat.lcm c m.toNat else c)
theorem fpN_pos {m : Int} {ms : List Int} {c : Nat} (h : 0 < m) : fpN (m :: ms) c = fpN ms (Nat.lcm c m.toNat) := by simp [fpN, h]
theorem fpN_not {m : Int} {ms : List Int} {c : Nat} (h : ¬ 0 < m) : fpN (m :: ms) c = fpN ms c := by simp [fpN, h]
/-- A common multiple of small numbers. -/
def Small (c : Nat) : Prop := c ∣ 360360
theorem Small.le {c : Nat} (h : Small c) : 1 ≤ c ∧ c ≤ 360360 := ⟨Nat.pos_of_dvd_of_pos h (by decide), Nat.le_of_dvd (by decide) h⟩
theorem small_of {m : Nat} (h1 : 1 ≤ m) (h2 : m ≤ 15) : Small m := by
  unfold Small
  have : m = 1 ∨ m = 2 ∨ m = 3 ∨ m = 4 ∨ m = 5 ∨ m = 6 ∨ m = 7 ∨ m = 8 ∨ m = 9 ∨ m = 10 ∨ m = 11 ∨ m = 12 ∨ m = 13 ∨ m = 14 ∨ m = 15 := by omega
  rcases this with h | h | h | h | h | h | h | h | h | h | h | h | h | h | h <;> subst h <;> decide
theorem Small.lcm {c m : Nat} (h : Small c) (h1 : 1 ≤ m) (h2 : m ≤ 15) : Small (Nat.lcm c m) := Nat.lcm_dvd h (small_of h1 h2)
theorem small_one : Small 1 := ⟨360360, rfl⟩
def rFullPeriod (p : List Int) : Int × Int := if okP p then (((fpN (orbPs p) 1 : Nat) : Int) * (p.length : Int), 0) else (0, 1)

set_option maxHeartbeats 400000 in
theorem FullPeriod_any (A : Option Addr) (n c : Nat) (p : List Int) (w : World) (hn : n ≤ 1099511627776) (hr : Rd w w.heap.size 1 A n (ints p)) :
    Calls Try.prog 56 #[.slice A n c] w fun e w' => e = .returned (.tuple #[.int .i64 (rFullPeriod p).1, .int .i64 (rFullPeriod p).2]) ∧ Below w.heap.size w w' := by
  have hV := ValidPattern_any A n c p w hn hr
  by_cases k : okP p = true
  · rw [k] at hV
    have hV := hid hV
    have hlen := hr.len
    have hth := thOk_iff (okP_th k)
    have hn1 : 1 ≤ n := by omega
    have hn2 : n ≤ 12 := by omega
    have hbd := hid (orbProp_bd k)
    have HO := hid (fun (w1 : World) (h : Rd w1 w1.heap.size 1 A n (ints p)) => orbitProps_any A n c p w1 k h)
    have HR := hid hr
    have hll := orbPs_len p
    rw [hlen] at hll
    obtain ⟨R, hR⟩ : ∃ R, fpN (orbPs p) 1 = R := ⟨_, rfl⟩
    have hst : Hid (fpN ((orbPs p).drop 0) 1 = R) := by show _ = _; rw [List.drop_zero]; exact hR
    have hs : Hid (rFullPeriod p = ((R : Int) * (n : Int), 0)) := by show _ = _; rw [rFullPeriod, if_pos k, hR, hlen]
    generalize orbPs p = L at *
    clear hr k hlen hth hR
    go_enter Try.func56, Try.ntmps56
    go_wp2_with (first | (go_at_call 64; refine (hV.out).mono ?_; rintro e w1 ⟨rfl, hb1⟩; first | (have hk1 := bchain (by assumption) hb1; obtain ⟨hc1, hf1, hz1, hl1⟩ := bcell hk1) | (obtain ⟨hc1, hf1, hz1, hl1⟩ := bcell hb1)) | (go_at_call 112; refine (HO.out _ ((HR.out.below hb1 (Nat.le_refl _)).more hb1.size)).mono ?_; rintro e w2 ⟨v2, rfl, ho2, hb2⟩; obtain ⟨A2, c2, rfl⟩ := own_form ho2; have HL := hid (Rd.of_own ho2); have HB : Hid (Below w.heap.size w w2) := (by repeat' (first | exact Below.refl _ _ | (with_reducible assumption) | (with_reducible refine Below.alloc ?_ ?_ _) | (with_reducible refine Below.setCell ?_ ?_ _) | (with_reducible refine Below.drew ?_) | (with_reducible refine below_drewN ?_ _) | (refine Below.trans ?_ (Below.mono (by assumption) ?_)) | (with_reducible exact Nat.le_refl _) | (with_reducible assumption) | (exact Below.size (by assumption)) | omega | go_size | (simp at *; omega))); clear ho2))
    go_loopw [4, 13] (fun v i wr => ∃ (j c : Nat), j ≤ L.length ∧ i = .int .i64 j ∧ v = .int .i64 c ∧ Small c ∧ Hid (fpN (L.drop j) c = R) ∧ Below w2.heap.size w2 wr) (fun _ i _ => L.length - (intOf i).toNat)
    case atStart => exact ⟨0, 1, Nat.zero_le _, rfl, rfl, small_one, hst, Below.refl _ _⟩
    case round =>
      obtain ⟨j, cc, hj, rfl, rfl, hsm, he, hb0⟩ := hrel
      clear hst
      obtain ⟨c1, c2'⟩ := hsm.le
      by_cases hlt : j < L.length
      · obtain ⟨b, off, m, rfl, hb, hx, hd, hc⟩ := (HL.out.below hb0 (Nat.le_refl _)).at_ hlt
        obtain ⟨m0, m1⟩ := hbd.out m (List.mem_of_getElem? hx)
        have he := he.out
        rw [hd] at he
        by_cases hm : 0 < m
        · rw [fpN_pos hm] at he
          obtain ⟨t, rfl⟩ := Int.eq_ofNat_of_zero_le m0
          rw [Int.toNat_natCast] at he
          have HE := hid he
          have hsm2 := hsm.lcm (m := t) (by omega) (by omega)
          have hle := hsm2.le
          have HM := hid (multiple_any cc t wr c1 (by omega) (by omega) (by omega))
          have HS := hid hsm2
          clear he hb hx hd hsm2 hle hsm
          go_wp2_with (go_at_call 113; refine (HM.out).mono ?_; rintro e w1 ⟨rfl, hb1⟩; first | (have hk1 := bchain (by assumption) hb1; obtain ⟨hc1, hf1, hz1, hl1⟩ := bcell hk1) | (obtain ⟨hc1, hf1, hz1, hl1⟩ := bcell hb1))
          go_roundw
          case rel => exact ⟨j + 1, _, by omega, by go_num, rfl, HS.out, HE, hb0.trans (hb1.mono hb0.size)⟩
          case measure => simp [intOf]; omega
        · rw [fpN_not hm] at he
          have HE := hid he
          clear he hb hx hd
          go_wp2
          go_roundw
          case rel => exact ⟨j + 1, _, by omega, by go_num, rfl, hsm, HE, hb0⟩
          case measure => simp [intOf]; omega
      · have he := he.out
        rw [List.drop_eq_nil_of_le (by omega), fpN] at he
        have HE : Hid (rFullPeriod p = ((n : Int) * (cc : Int), 0)) := by show _ = _; rw [hs.out, he, Int.mul_comm]
        have hp1 : (n : Int) * (cc : Int) ≤ 12 * 360360 := Int.mul_le_mul (by omega) (by omega) (by omega) (by omega)
        have hp0 : 0 ≤ (n : Int) * (cc : Int) := Int.mul_nonneg (by omega) (by omega)
        clear he
        go_wp2_with (go_at_call 107; refine (period_any _ _ _ _ (by omega)).mono ?_; rintro e w' ⟨rfl, rfl⟩)
        go_ret2
        exact ⟨by rw [HE.out]; rfl, HB.out.trans (hb0.mono HB.out.size)⟩
  · have k : okP p = false := by simpa using k
    rw [k] at hV
    have hV := hid hV
    have hs : Hid (rFullPeriod p = (0, 1)) := by show _ = _; simp [rFullPeriod, k]
    clear k hr
    go_enter Try.func56, Try.ntmps56
    go_wp2_with (first | (go_at_call 64; refine (hV.out).mono ?_; rintro e w1 ⟨rfl, hb1⟩; first | (have hk1 := bchain (by assumption) hb1; obtain ⟨hc1, hf1, hz1, hl1⟩ := bcell hk1) | (obtain ⟨hc1, hf1, hz1, hl1⟩ := bcell hb1)))
    go_ret2
    exact ⟨by rw [hs.out]; rfl, (by repeat' (first | exact Below.refl _ _ | (with_reducible assumption) | (with_reducible refine Below.alloc ?_ ?_ _) | (with_reducible refine Below.setCell ?_ ?_ _) | (with_reducible refine Below.drew ?_) | (with_reducible refine below_drewN ?_ _) | (refine Below.trans ?_ (Below.mono (by assumption) ?_)) | (with_reducible exact Nat.le_refl _) | (with_reducible assumption) | (exact Below.size (by assumption)) | omega | go_size | (simp at *; omega)))⟩
theorem orbPs_drop {p : List Int} {rows : List (List Int)} (h : orbs p = rows) (j : Nat) : (orbPs p).drop j = (rows.drop j).map (orbProp p) := by rw [orbPs, h, List.map_drop]

end Go.Proofs.Yteaabniemlnjbaa
