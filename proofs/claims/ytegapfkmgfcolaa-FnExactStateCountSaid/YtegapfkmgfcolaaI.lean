/- Contracts of StateAt, and the walks of the laws of the graphs. -/
import Derived.Test.YtegapfkmgfcolaaH
namespace Go.Proofs.Ytegapfkmgfcolaa
open Go.RowKit
set_option linter.unusedVariables false

def rStateAt (p h i : Int) : (Int × Int) × Int := if stRange p h && betweenB i 0 ((msks p h).length - 1) then ((h, (msks p h).getD i.toNat 0), 0) else ((0, 0), 2)
def stRes' (r : (Int × Int) × Int) : Value := .tuple #[.agg #[.int .i64 r.1.1, .int .i64 r.1.2], .int .i64 r.2]
theorem fnExactStateCount_walk (w : World) (aProps : Int) (_ : BD aProps) (aHeight : Int) (_ : BD aHeight) :
    Calls Try.prog 13 #[.int .i64 aProps, .int .i64 aHeight] w fun e w' => e = .returned (.bool true) ∧ Below w.heap.size w w' := by
  have hS := hid (fun  (w1 : World)  => specStateCount_any aProps aHeight w1 )
  have hI := hid (fun  (w1 : World)  => StateCount_any aProps aHeight w1 )
  generalize rStateCount aProps aHeight = r at *
  obtain ⟨r0, r1⟩ := r
  have hB := Below.refl w.heap.size w
  go_enter Try.func13, Try.ntmps13
  go_wp2_with (go_at_call 41; refine (hS.out _).mono ?_; rintro e w1 ⟨rfl, hb1⟩; have s1 := hb1.size; replace hB := bchain hB hb1)
  go_wp2_with (go_at_call 42; refine (hI.out _).mono ?_; rintro e w2 ⟨rfl, hb2⟩; have s2 := hb2.size; replace hB := bchain hB hb2)
  go_ret
  exact ⟨rfl, (by repeat' (first | exact Below.refl _ _ | (with_reducible assumption) | (with_reducible refine Below.alloc ?_ ?_ _) | (with_reducible refine Below.setCell ?_ ?_ _) | (with_reducible refine Below.drew ?_) | (with_reducible refine below_drewN ?_ _) | (refine Below.trans ?_ (Below.mono (by assumption) ?_)) | (with_reducible exact Nat.le_refl _) | (with_reducible assumption) | (exact Below.size (by assumption)) | omega | go_size | (simp at *; omega)))⟩
end Go.Proofs.Ytegapfkmgfcolaa
