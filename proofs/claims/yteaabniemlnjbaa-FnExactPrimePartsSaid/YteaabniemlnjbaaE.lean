/- Contracts of the functions that count the bits of a state. -/
import Derived.Test.YteaabniemlnjbaaA
import Derived.Test.YteaabniemlnjbaaC
import Derived.Test.YteaabniemlnjbaaN
namespace Go.Proofs.Yteaabniemlnjbaa
open Go.RowKit
set_option linter.unusedVariables false

theorem bitB_eq (m t : Int) (h0 : 0 ≤ m) (h1 : m ≤ 9223372036854775807) : bitB m t = (m / 2 ^ t.toNat % 2 == 1) := by
  have hp : (0 : Int) ≤ 2 ^ t.toNat := Int.pow_nonneg (by decide)
  rw [bitB, bits_one _ (Int.ediv_nonneg h0 hp) (Int.le_trans (Int.ediv_le_self _ h0) h1)]
theorem popc_yes {m : Int} {t : Nat} (h0 : 0 ≤ m) (h1 : m ≤ 9223372036854775807) (k : bitB m (t : Int) = true) : popc (t + 1) m = popc t m + 1 := by
  rw [bitB_eq m t h0 h1] at k
  simp at k
  rw [popc_snoc, k]
theorem popc_not {m : Int} {t : Nat} (h0 : 0 ≤ m) (h1 : m ≤ 9223372036854775807) (k : bitB m (t : Int) = false) : popc (t + 1) m = popc t m := by
  rw [bitB_eq m t h0 h1] at k
  simp at k
  rw [popc_snoc]
  omega

end Go.Proofs.Yteaabniemlnjbaa
