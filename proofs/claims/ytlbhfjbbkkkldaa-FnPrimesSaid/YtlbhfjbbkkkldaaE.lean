/- Contracts of the functions that count the bits of a state. -/
import Derived.Test.YtlbhfjbbkkkldaaA
import Derived.Test.YtlbhfjbbkkkldaaC
import Derived.Test.YtlbhfjbbkkkldaaN
namespace Go.Proofs.Ytlbhfjbbkkkldaa
open Go.RowKit
set_option linter.unusedVariables false

theorem bitB_eq (m t : Int) (h0 : 0 ≤ m) (h1 : m ≤ 9223372036854775807) : bitB m t = (m / 2 ^ t.toNat % 2 == 1) := by
  have hp : (0 : Int) ≤ 2 ^ t.toNat := Int.pow_nonneg (by decide)
  rw [bitB, bits_one _ (Int.ediv_nonneg h0 hp) (Int.le_trans (Int.ediv_le_self _ h0) h1)]
theorem popc_yes {m : Int} {t : Nat} (h0 : 0 ≤ m) (h1 : m ≤ 9223372036854775807) (k : bitB m (t : Int) = true) : popc (t + 1) m = popc t m + 1 := by
  rw [bitB_eq m t h0 h1] at k
  simp at k
  rw [popc_snoc, k]
theorem popc_not {m : Int} {t : Nat} (h0 : 0 ≤ m) (h1 : m ≤ 9223372036854775807) (k : bitB m (t : Int) = false) : popc (t + 1) m = popc t m := by
  rw [bitB_eq m t h0 h1] at k
  simp at k
  rw [popc_snoc]
  omega

theorem l08Count_any (m : Int) (f : Nat) (w : World) (h0 : 0 ≤ m) (hf : f ≤ 62) (h1 : m < 2 ^ f) :
    Calls Try.prog 202 #[.int .i64 m] w fun e w' => e = .returned (.int .i64 (popc f m)) ∧ w = w' := by
  have h2 : (2 : Int) ^ f ≤ 4611686018427387904 := by have := (pow_wrap (f : Int) (by omega) (by omega)).2.2; simpa using this
  go_enter Try.func202, Try.ntmps202
  go_wp2
  go_loop [0, 3] (fun x n => ∃ (y k : Int) (g : Nat), x = .int .i64 y ∧ n = .int .i64 k ∧ 0 ≤ y ∧ y ≤ m ∧ y < 2 ^ g ∧ 0 ≤ k ∧ k + g ≤ f ∧ Hid (k + popc g y = popc f m)) (fun x _ => (intOf x).toNat)
  case atStart => exact ⟨m, 0, f, rfl, rfl, h0, Int.le_refl _, h1, by omega, by omega, (by show _ = _; omega)⟩
  case round =>
    obtain ⟨y, k, g, rfl, rfl, hy, hy2, hg, hk, hkg, he⟩ := hrel
    by_cases hlt : 0 < y
    · obtain ⟨g, rfl⟩ : ∃ r, g = r + 1 := ⟨g - 1, by
        rcases Nat.eq_zero_or_pos g with e | e
        · subst e; simp at hg; omega
        · omega⟩
      have hbit := bits_one y hy (by omega)
      have hm2 : y % 2 < 2 := by omega
      have hm3 : 0 ≤ y % 2 := by omega
      have HZ : Hid ((k + y % 2) + popc g (y / 2) = popc f m) := by
        show _ = _
        rw [← he.out, popc]; omega
      have hg2 : Hid (y / 2 < 2 ^ g) := by
        show _ < _
        rw [Int.pow_succ] at hg; omega
      clear he hg
      go_wp2
      go_round
      case rel => exact ⟨y / 2, k + y % 2, g, rfl, rfl, by omega, by omega, hg2.out, by omega, by omega, HZ⟩
      case measure => simp [intOf]; omega
    · have : y = 0 := by omega
      subst this
      have HZ : Hid (popc f m = k) := by show _ = _; rw [← he.out, popc_zero]; omega
      clear he
      go_wp2
      go_ret
      exact ⟨ret_int HZ.out.symm, rfl⟩
end Go.Proofs.Ytlbhfjbbkkkldaa
