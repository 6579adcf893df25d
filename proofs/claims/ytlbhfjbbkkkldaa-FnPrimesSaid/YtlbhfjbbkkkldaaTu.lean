/- Contracts of the operations of patterns: RotatePattern, ReversePattern, SwapLandings, RaiseThrow, ShiftThrows, DualPattern, of valid patterns. -/
import Derived.Test.YtlbhfjbbkkkldaaTn
import Derived.Test.YtlbhfjbbkkkldaaBt
import Derived.Test.YtlbhfjbbkkkldaaCo
import Derived.Test.YtlbhfjbbkkkldaaDr
import Derived.BigRegion
import Derived.StillTailTactics
import Derived.Deep.RegionWith
import Derived.Deep.QuietTactic
import Derived.BigQuiet
import Derived.IntWalk
namespace Go.Proofs.Ytlbhfjbbkkkldaa
open Go.RowKit
set_option linter.unusedVariables false

theorem own_blk {w : World} {base e sz n : Nat} {v : Value} {xs : List Value} (h : w.ownsRow base e sz v n xs) (hn : 0 < n) : ∃ g c, v = .slice (some ⟨g, 0, none⟩) n c ∧ base ≤ g ∧ g < w.heap.size := by
  rcases h.2 with ⟨_, h0⟩ | ⟨g, cap, cur, rfl, hge, hh, _⟩
  · omega
  · exact ⟨g, cap, rfl, hge, (Array.getElem?_eq_some_iff.1 hh).1⟩
theorem intsSet (xs : List Int) (i : Nat) (x : Int) : (ints xs).set i (.int .i64 x) = ints (xs.set i x) := by simp [ints, List.map_set]
/-- A list that is given back if it is one of throws. -/
def ThRes (B : Nat) (R : List Int) (e : Ending) (w : World) : Prop := (thOk R = true ∧ ∃ v, e = .returned (.tuple #[v, .int .i64 0]) ∧ w.ownsRow B 2 1 v R.length (ints R)) ∨ (thOk R = false ∧ e = .returned (.tuple #[.slice none 0 0, .int .i64 2]))
end Go.Proofs.Ytlbhfjbbkkkldaa
