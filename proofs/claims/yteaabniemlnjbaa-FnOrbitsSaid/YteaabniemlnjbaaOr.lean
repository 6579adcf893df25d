/- Plain facts on the props of orbits. -/
import Derived.Test.YteaabniemlnjbaaOq
namespace Go.Proofs.Yteaabniemlnjbaa
open Go.RowKit
set_option linter.unusedVariables false

/-- The sum of the throws at the beats of a row. -/
def sumAt (p : List Int) : List Int → Int
  | [] => 0
  | k :: r => p.getD k.toNat 0 + sumAt p r
def orbProp (p row : List Int) : Int := sumAt p row / (p.length : Int)
def orbPs (p : List Int) : List Int := (orbs p).map (orbProp p)
theorem orbPs_len (p : List Int) : (orbPs p).length ≤ p.length := by rw [orbPs, List.length_map]; exact orbs_len p
def rOrbitProps (p : List Int) : List Int × Int := if okP p then (orbPs p, 0) else ([], 1)
theorem OrbitProps_len (p : List Int) : (rOrbitProps p).1.length ≤ 12 := by
  unfold rOrbitProps
  split
  · rename_i h; have := (thOk_iff (okP_th h)).2.2; have := orbPs_len p; show (orbPs p).length ≤ 12; omega
  · simp
end Go.Proofs.Yteaabniemlnjbaa
