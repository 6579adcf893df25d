/- Characters of throws: plain facts, and the contracts of l04Digit and l04Value. -/
import Derived.Test.YtlbhfjbbkkkldaaTl
import Derived.Test.YtlbhfjbbkkkldaaPt
import Derived.Test.YtlbhfjbbkkkldaaTc
import Derived.Deep.RegionHeld3
namespace Go.Proofs.Ytlbhfjbbkkkldaa
open Go.RowKit
set_option linter.unusedVariables false

/-- The byte of a throw. -/
def hexU (v : Int) : UInt8 := UInt8.ofNat (hexB v).toNat
theorem hexU_nat {v : Int} (h0 : 0 ≤ v) (h1 : v ≤ 15) : ((hexU v).toNat : Int) = hexB v := by
  obtain ⟨y0, y1⟩ := hexB_bd h0 h1
  unfold hexU
  rw [UInt8.toNat_ofNat', Nat.mod_eq_of_lt (by omega), Int.toNat_of_nonneg y0]
theorem hexU_ne {v : Int} {c : UInt8} (h0 : 0 ≤ v) (h1 : v ≤ 15) (hc : rDig (c.toNat : Int) = -1) : hexU v ≠ c := by
  intro e
  have h := rDig_hexB h0 h1
  rw [← hexU_nat h0 h1, e, hc] at h
  omega
theorem rDig_hexU {v : Int} (h0 : 0 ≤ v) (h1 : v ≤ 15) : rDig ((hexU v).toNat : Int) = v := by rw [hexU_nat h0 h1]; exact rDig_hexB h0 h1
theorem hexS_ext {n : Nat} (h : n < 16) : ({ data := #[48, 49, 50, 51, 52, 53, 54, 55, 56, 57, 97, 98, 99, 100, 101, 102] } : ByteArray).extract n (n + 1) = st [hexU (n : Int)] := by
  have hn : n < hexS.size := by rw [hexS_size]; exact h
  have h1 := hexS_at ⟨n, h⟩
  have h2 : hexS[n]'hn = hexU (n : Int) := by
    refine UInt8.toNat_inj.1 ?_
    have h3 := hexU_nat (v := (n : Int)) (by omega) (by omega)
    have h1 : ((hexS[n]'hn).toNat : Int) = hexB (n : Int) := h1
    omega
  have h4 := one_at hexS n hn
  rw [h2] at h4
  exact h4
theorem ret_str {a b : ByteArray} (h : a = b) : Ending.returned (.string a) = .returned (.string b) := by rw [h]
theorem l04Digit_any (x : Int) (w : World) (x0 : 0 ≤ x) (x1 : x ≤ 15) :
    Calls Try.prog 136 #[.int .i64 x] w fun e w' => e = .returned (.string (st [hexU x])) ∧ w = w' := by
  obtain ⟨n, rfl⟩ := Int.eq_ofNat_of_zero_le x0
  have he := hexS_ext (n := n) (by omega)
  have h1 : (n : Int) ≤ (n : Int) + 1 := by omega
  have h2 : (n : Int) + 1 ≤ 16 := by omega
  have hz : ({ data := #[48, 49, 50, 51, 52, 53, 54, 55, 56, 57, 97, 98, 99, 100, 101, 102] } : ByteArray).size = 16 := rfl
  go_enter Try.func136, Try.ntmps136
  go_wp2
  go_ret
  exact ⟨rfl, rfl⟩
theorem l04Value_any (c : Int) (c0 : 0 ≤ c) (c1 : c ≤ 255) (w : World) : Calls Try.prog 164 #[.int .u8 c] w fun e w' => e = .returned (.int .i64 (rDig c)) ∧ w = w' := by
  by_cases h1 : 48 ≤ c
  · by_cases h2 : c ≤ 57
    · have hd : Hid (rDig c = c - 48) := by show _ = _; simp [rDig, h1, h2]
      go_enter Try.func164, Try.ntmps164
      go_wp2
      go_ret
      exact ⟨ret_int hd.out.symm, rfl⟩
    · by_cases h3 : 97 ≤ c
      · by_cases h4 : c ≤ 102
        · have hd : Hid (rDig c = c - 87) := by show _ = _; simp [rDig, h2, h3, h4]
          go_enter Try.func164, Try.ntmps164
          go_wp2
          go_ret
          exact ⟨ret_int (by rw [hd.out]; omega), rfl⟩
        · have hd : Hid (rDig c = -1) := by show _ = _; simp [rDig, h2, h4]
          go_enter Try.func164, Try.ntmps164
          go_wp2
          go_ret
          exact ⟨ret_int hd.out.symm, rfl⟩
      · have hd : Hid (rDig c = -1) := by show _ = _; simp [rDig, h2, h3]
        go_enter Try.func164, Try.ntmps164
        go_wp2
        go_ret
        exact ⟨ret_int hd.out.symm, rfl⟩
  · have h3 : ¬ 97 ≤ c := by omega
    have hd : Hid (rDig c = -1) := by show _ = _; simp [rDig, h1, h3]
    go_enter Try.func164, Try.ntmps164
    go_wp2
    go_ret
    exact ⟨ret_int hd.out.symm, rfl⟩
theorem tl_one {s : ByteArray} (h : s.size = 1) : tl s = [s[0]'(by omega)] := by
  have := tl_drop s 0 (by omega)
  rw [List.drop_zero] at this
  rw [this, List.drop_eq_nil_of_le (by rw [tl_len]; omega)]
theorem tl_two {s : ByteArray} (h : s.size = 2) : tl s = [s[0]'(by omega), s[1]'(by omega)] := by
  have h0 := tl_drop s 0 (by omega)
  have h1 := tl_drop s 1 (by omega)
  rw [List.drop_zero] at h0
  rw [h0, h1, List.drop_eq_nil_of_le (by rw [tl_len]; omega)]
theorem one_first {s sub : ByteArray} {x : UInt8} {r : List UInt8} (hx : tl s = x :: r) (hsub : s.extract 0 1 = sub) (hz : sub.size = 1) : sub[0]'(by omega) = x := by
  have h := tl_one hz
  have h1 : tl sub = [x] := by rw [← hsub, tl_extract, hx]; rfl
  rw [h1] at h
  injection h with h _
  exact h.symm
end Go.Proofs.Ytlbhfjbbkkkldaa
