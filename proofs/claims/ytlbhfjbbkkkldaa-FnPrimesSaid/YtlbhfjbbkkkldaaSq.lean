/- Contracts of StateOf, IsGround and CanFollow, and the walks of their laws. -/
import Derived.Test.YtlbhfjbbkkkldaaSo
import Derived.Test.YtlbhfjbbkkkldaaB
namespace Go.Proofs.Ytlbhfjbbkkkldaa
open Go.RowKit
set_option linter.unusedVariables false

/-- The code of a function of a pattern, a beat and a height. -/
def stC (p : List Int) (b h : Int) : Int := if okP p then (if betweenB b (-1000) 1000 && betweenB h 1 10 then (if h < hiT p then 6 else 0) else 2) else 1
theorem stC_ok {p : List Int} {b h : Int} (k : stC p b h = 0) : okP p = true ∧ -1000 ≤ b ∧ b ≤ 1000 ∧ 1 ≤ h ∧ h ≤ 10 ∧ hiT p ≤ h := by
  unfold stC at k
  split at k
  · rename_i h1
    split at k
    · rename_i h2
      simp only [Bool.and_eq_true, betweenB_iff] at h2
      split at k
      · omega
      · exact ⟨h1, h2.1.1, h2.1.2, h2.2.1, h2.2.2, by omega⟩
    · omega
  · omega
def rStateOf (p : List Int) (b h : Int) : (Int × Int) × Int := if stC p b h = 0 then ((h, ((stM p b h.toNat : Nat) : Int)), 0) else ((0, 0), stC p b h)



end Go.Proofs.Ytlbhfjbbkkkldaa
