/- Contracts of the texts of patterns: PatternText, hexOf, readThrows, ReadPattern. -/
import Derived.Test.YtlbhfjbbkkkldaaTx
import Derived.Test.YtlbhfjbbkkkldaaDw
import Derived.Test.YtlbhfjbbkkkldaaC
namespace Go.Proofs.Ytlbhfjbbkkkldaa
open Go.RowKit
set_option linter.unusedVariables false

/-- The byte of a throw. -/
def hexB (t : Int) : Int := if t ≤ 9 then 48 + t else 87 + t
def hexS : ByteArray := ⟨#[48, 49, 50, 51, 52, 53, 54, 55, 56, 57, 97, 98, 99, 100, 101, 102]⟩
theorem hexS_size : hexS.size = 16 := by decide
theorem hexS_at : ∀ t : Fin 16, ((hexS[t.val]'(by have := t.isLt; rw [hexS_size]; exact this)).toNat : Int) = hexB (t.val : Int) := by decide
theorem rDig_hexB {t : Int} (h0 : 0 ≤ t) (h1 : t ≤ 15) : rDig (hexB t) = t := by
  unfold hexB rDig
  split <;> split <;> (try split) <;> omega
theorem rDig_cases (c : Int) : rDig c = -1 ∨ (0 ≤ rDig c ∧ rDig c ≤ 15 ∧ hexB (rDig c) = c) := by
  unfold rDig
  split
  · right; unfold hexB; split <;> omega
  · split
    · right; unfold hexB; split <;> omega
    · left; rfl
theorem hexB_bd {t : Int} (h0 : 0 ≤ t) (h1 : t ≤ 15) : 0 ≤ hexB t ∧ hexB t ≤ 255 := by unfold hexB; split <;> omega
theorem hexOf_any (c : Int) (c0 : 0 ≤ c) (c1 : c ≤ 255) (w : World) : Calls Try.prog 133 #[.int .u8 c] w fun e w' => e = .returned (.int .i64 (rDig c)) ∧ w = w' := by
  go_enter Try.func133, Try.ntmps133
  go_wp2
  go_loop [4] (fun i => Hid (∃ k : Nat, k ≤ 16 ∧ i = .int .i64 k ∧ ∀ j : Nat, j < k → hexB j ≠ c)) (fun i => 16 - (intOf i).toNat)
  case atStart => exact hid ⟨0, by omega, rfl, fun j h => by omega⟩
  case round =>
    obtain ⟨k, hk, rfl, hall⟩ := hrel.out
    by_cases hlt : k < 16
    · have hS := hexS_at ⟨k, hlt⟩
      obtain ⟨y, hy⟩ : ∃ y, hexB (k : Int) = y := ⟨_, rfl⟩
      have hS : ((({ data := #[48, 49, 50, 51, 52, 53, 54, 55, 56, 57, 97, 98, 99, 100, 101, 102] } : ByteArray)[k]'(by rw [show ({ data := #[48, 49, 50, 51, 52, 53, 54, 55, 56, 57, 97, 98, 99, 100, 101, 102] } : ByteArray).size = 16 from rfl]; exact hlt)).toNat : Int) = y := by rw [← hy]; exact hS
      by_cases hyc : y = c
      · have hd : Hid (rDig c = (k : Int)) := by
          show _ = _
          rw [← hyc, ← hy]; exact rDig_hexB (by omega) (by omega)
        subst hyc
        have HY := hid hy
        clear hy hall hrel
        go_wp2
        go_ret
        exact ⟨ret_int hd.out.symm, rfl⟩
      · have hq : (y == c) = false := by simpa using hyc
        have HA : Hid (∀ j : Nat, j < k + 1 → hexB j ≠ c) := by
          intro j hj
          rcases Nat.lt_or_eq_of_le (Nat.le_of_lt_succ hj) with h | h
          · exact hall j h
          · subst h; rw [hy]; exact hyc
        clear hy hall hrel hyc
        go_wp2
        go_round
        case rel => exact hid ⟨k + 1, by omega, by go_num, HA.out⟩
        case measure => simp [intOf]; omega
    · have hd : Hid (rDig c = -1) := by
        show _ = _
        rcases rDig_cases c with h | ⟨h0, h1, h2⟩
        · exact h
        · exact absurd (by rw [Int.toNat_of_nonneg h0]; exact h2) (hall (rDig c).toNat (by omega))
      go_wp2
      go_ret
      exact ⟨ret_int hd.out.symm, rfl⟩
theorem inf_b8 : (Try.prog.info? 5).map (fun i => (i.zero, i.size, i.bytes)) = some (some (.int .u8 0), 1, 1) := by kernel_rfl
end Go.Proofs.Ytlbhfjbbkkkldaa
