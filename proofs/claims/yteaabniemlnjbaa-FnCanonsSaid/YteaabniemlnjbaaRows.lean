/-
  No cell of these rows narrows 'for every input' (looked for: loops, veiled, ifaces, maps, wideKeys, modest, calm, conditions, laid).
  DERIVED. THE GIVEN ROWS OF THIS SEAT. 12 by the template 'for every input the law returns true; each argument reads behind the call as it read before'; 0 by the template 'total and deterministic' (their statements: YteaabniemlnjbaaTotals.lean).
  GIVEN WITH THE SEED: the statements are not yours to turn. If you find one false, say at which input.
  Laid BY PROGRAM, IN A SANDBOX (cutbox-rows.mjs): the forced cells as the released guide's own fill.sh prints them over the translation a45bf7730d62ddce… (all of the seat's roots in one cut). By AI agents, Wed Nov 11 2026. No macro, syntax, notation, axiom, sorry.
-/
import Derived.Test.YteaabniemlnjbaaChecked
import GoSem.Claim
import GoSem.ClaimJoined
import GoSem.ClaimMapViews
import Derived.JoinedTies
import Derived.KernelRfl
namespace Go.Proofs.Yteaabniemlnjbaa
/- THE CELL 'sum', in the pinned program and in every row, IS THE sha256 OF THE DUMP (.gsa) THAT YteaabniemlnjbaaProg.lean LOADS. Nothing in Lean hashes anything: it is a label: what it is worth is what the hold of that sum in a sandbox is worth. -/
noncomputable def Try.pinned : Pinned := { name := "yteaabniemlnjbaa", sum := "a45bf7730d62ddcebb08c781c966a6ddd537ceaaad69b57cc1a661a19de47c7f", checked := Try.checked }
namespace Rows
def none {H : Type} : Left H := { results := [], args := [] }

/-- 'laws.FnExactThrowsOfProp': WHATEVER THE INPUT: true; the input reads as it did. -/
def fnExactThrowsOfPropSpec : ChangeSpec := { name := "fnExactThrowsOfProp", fn := fun _ => fun
  | [d1, d2, d3] => { results := [.lit (.bool true)], args := [d1, d2, d3] }
  | _ => none }
def fnExactThrowsOfPropRow : OpenClaim := { program := "yteaabniemlnjbaa", sum := "a45bf7730d62ddcebb08c781c966a6ddd537ceaaad69b57cc1a661a19de47c7f", func := "loop.example/g00927/laws.FnExactThrowsOfProp", spec := "fnExactThrowsOfProp", apart := false }
def FnExactThrowsOfPropSaid : Prop := fnExactThrowsOfPropRow.holds Try.pinned (OpenSpec.ofChange fnExactThrowsOfPropSpec)

/-- ITS FALSE NEIGHBOUR: 'it returns false'. Refute it at one input. -/
def fnExactThrowsOfPropWrong : ChangeSpec := { name := "fnExactThrowsOfProp", fn := fun _ => fun
  | [d1, d2, d3] => { results := [.lit (.bool false)], args := [d1, d2, d3] }
  | _ => none }
def FnExactThrowsOfPropWrongFalsely : Prop := fnExactThrowsOfPropRow.holds Try.pinned (OpenSpec.ofChange fnExactThrowsOfPropWrong)

/-- 'laws.FnExactIsPrime': WHATEVER THE INPUT: true; the input reads as it did. -/
def fnExactIsPrimeSpec : ChangeSpec := { name := "fnExactIsPrime", fn := fun _ => fun
  | [d] => { results := [.lit (.bool true)], args := [d] }
  | _ => none }
def fnExactIsPrimeRow : OpenClaim := { program := "yteaabniemlnjbaa", sum := "a45bf7730d62ddcebb08c781c966a6ddd537ceaaad69b57cc1a661a19de47c7f", func := "loop.example/g00927/laws.FnExactIsPrime", spec := "fnExactIsPrime", apart := false }
def FnExactIsPrimeSaid : Prop := fnExactIsPrimeRow.holds Try.pinned (OpenSpec.ofChange fnExactIsPrimeSpec)

/-- ITS FALSE NEIGHBOUR: 'it returns false'. Refute it at one input. -/
def fnExactIsPrimeWrong : ChangeSpec := { name := "fnExactIsPrime", fn := fun _ => fun
  | [d] => { results := [.lit (.bool false)], args := [d] }
  | _ => none }
def FnExactIsPrimeWrongFalsely : Prop := fnExactIsPrimeRow.holds Try.pinned (OpenSpec.ofChange fnExactIsPrimeWrong)

/-- 'laws.FnExactFirstRepeat': WHATEVER THE INPUT: true; the input reads as it did. -/
def fnExactFirstRepeatSpec : ChangeSpec := { name := "fnExactFirstRepeat", fn := fun _ => fun
  | [d] => { results := [.lit (.bool true)], args := [d] }
  | _ => none }
def fnExactFirstRepeatRow : OpenClaim := { program := "yteaabniemlnjbaa", sum := "a45bf7730d62ddcebb08c781c966a6ddd537ceaaad69b57cc1a661a19de47c7f", func := "loop.example/g00927/laws.FnExactFirstRepeat", spec := "fnExactFirstRepeat", apart := false }
def FnExactFirstRepeatSaid : Prop := fnExactFirstRepeatRow.holds Try.pinned (OpenSpec.ofChange fnExactFirstRepeatSpec)

/-- ITS FALSE NEIGHBOUR: 'it returns false'. Refute it at one input. -/
def fnExactFirstRepeatWrong : ChangeSpec := { name := "fnExactFirstRepeat", fn := fun _ => fun
  | [d] => { results := [.lit (.bool false)], args := [d] }
  | _ => none }
def FnExactFirstRepeatWrongFalsely : Prop := fnExactFirstRepeatRow.holds Try.pinned (OpenSpec.ofChange fnExactFirstRepeatWrong)

/-- 'laws.FnExactStateVisits': WHATEVER THE INPUT: true; the input reads as it did. -/
def fnExactStateVisitsSpec : ChangeSpec := { name := "fnExactStateVisits", fn := fun _ => fun
  | [d] => { results := [.lit (.bool true)], args := [d] }
  | _ => none }
def fnExactStateVisitsRow : OpenClaim := { program := "yteaabniemlnjbaa", sum := "a45bf7730d62ddcebb08c781c966a6ddd537ceaaad69b57cc1a661a19de47c7f", func := "loop.example/g00927/laws.FnExactStateVisits", spec := "fnExactStateVisits", apart := false }
def FnExactStateVisitsSaid : Prop := fnExactStateVisitsRow.holds Try.pinned (OpenSpec.ofChange fnExactStateVisitsSpec)

/-- ITS FALSE NEIGHBOUR: 'it returns false'. Refute it at one input. -/
def fnExactStateVisitsWrong : ChangeSpec := { name := "fnExactStateVisits", fn := fun _ => fun
  | [d] => { results := [.lit (.bool false)], args := [d] }
  | _ => none }
def FnExactStateVisitsWrongFalsely : Prop := fnExactStateVisitsRow.holds Try.pinned (OpenSpec.ofChange fnExactStateVisitsWrong)

/-- 'laws.FnExactStatesOf': WHATEVER THE INPUT: true; the input reads as it did. -/
def fnExactStatesOfSpec : ChangeSpec := { name := "fnExactStatesOf", fn := fun _ => fun
  | [d1, d2] => { results := [.lit (.bool true)], args := [d1, d2] }
  | _ => none }
def fnExactStatesOfRow : OpenClaim := { program := "yteaabniemlnjbaa", sum := "a45bf7730d62ddcebb08c781c966a6ddd537ceaaad69b57cc1a661a19de47c7f", func := "loop.example/g00927/laws.FnExactStatesOf", spec := "fnExactStatesOf", apart := false }
def FnExactStatesOfSaid : Prop := fnExactStatesOfRow.holds Try.pinned (OpenSpec.ofChange fnExactStatesOfSpec)

/-- ITS FALSE NEIGHBOUR: 'it returns false'. Refute it at one input. -/
def fnExactStatesOfWrong : ChangeSpec := { name := "fnExactStatesOf", fn := fun _ => fun
  | [d1, d2] => { results := [.lit (.bool false)], args := [d1, d2] }
  | _ => none }
def FnExactStatesOfWrongFalsely : Prop := fnExactStatesOfRow.holds Try.pinned (OpenSpec.ofChange fnExactStatesOfWrong)

/-- 'laws.FnExactPrimeParts': WHATEVER THE INPUT: true; the input reads as it did. -/
def fnExactPrimePartsSpec : ChangeSpec := { name := "fnExactPrimeParts", fn := fun _ => fun
  | [d] => { results := [.lit (.bool true)], args := [d] }
  | _ => none }
def fnExactPrimePartsRow : OpenClaim := { program := "yteaabniemlnjbaa", sum := "a45bf7730d62ddcebb08c781c966a6ddd537ceaaad69b57cc1a661a19de47c7f", func := "loop.example/g00927/laws.FnExactPrimeParts", spec := "fnExactPrimeParts", apart := false }
def FnExactPrimePartsSaid : Prop := fnExactPrimePartsRow.holds Try.pinned (OpenSpec.ofChange fnExactPrimePartsSpec)

/-- ITS FALSE NEIGHBOUR: 'it returns false'. Refute it at one input. -/
def fnExactPrimePartsWrong : ChangeSpec := { name := "fnExactPrimeParts", fn := fun _ => fun
  | [d] => { results := [.lit (.bool false)], args := [d] }
  | _ => none }
def FnExactPrimePartsWrongFalsely : Prop := fnExactPrimePartsRow.holds Try.pinned (OpenSpec.ofChange fnExactPrimePartsWrong)

/-- 'laws.FnTurns': WHATEVER THE INPUT: true; the input reads as it did. -/
def fnTurnsSpec : ChangeSpec := { name := "fnTurns", fn := fun _ => fun
  | [d1, d2] => { results := [.lit (.bool true)], args := [d1, d2] }
  | _ => none }
def fnTurnsRow : OpenClaim := { program := "yteaabniemlnjbaa", sum := "a45bf7730d62ddcebb08c781c966a6ddd537ceaaad69b57cc1a661a19de47c7f", func := "loop.example/g00927/laws.FnTurns", spec := "fnTurns", apart := false }
def FnTurnsSaid : Prop := fnTurnsRow.holds Try.pinned (OpenSpec.ofChange fnTurnsSpec)

/-- ITS FALSE NEIGHBOUR: 'it returns false'. Refute it at one input. -/
def fnTurnsWrong : ChangeSpec := { name := "fnTurns", fn := fun _ => fun
  | [d1, d2] => { results := [.lit (.bool false)], args := [d1, d2] }
  | _ => none }
def FnTurnsWrongFalsely : Prop := fnTurnsRow.holds Try.pinned (OpenSpec.ofChange fnTurnsWrong)

/-- 'laws.FnRaised': WHATEVER THE INPUT: true; the input reads as it did. -/
def fnRaisedSpec : ChangeSpec := { name := "fnRaised", fn := fun _ => fun
  | [d1, d2] => { results := [.lit (.bool true)], args := [d1, d2] }
  | _ => none }
def fnRaisedRow : OpenClaim := { program := "yteaabniemlnjbaa", sum := "a45bf7730d62ddcebb08c781c966a6ddd537ceaaad69b57cc1a661a19de47c7f", func := "loop.example/g00927/laws.FnRaised", spec := "fnRaised", apart := false }
def FnRaisedSaid : Prop := fnRaisedRow.holds Try.pinned (OpenSpec.ofChange fnRaisedSpec)

/-- ITS FALSE NEIGHBOUR: 'it returns false'. Refute it at one input. -/
def fnRaisedWrong : ChangeSpec := { name := "fnRaised", fn := fun _ => fun
  | [d1, d2] => { results := [.lit (.bool false)], args := [d1, d2] }
  | _ => none }
def FnRaisedWrongFalsely : Prop := fnRaisedRow.holds Try.pinned (OpenSpec.ofChange fnRaisedWrong)

/-- 'laws.FnProps': WHATEVER THE INPUT: true; the input reads as it did. -/
def fnPropsSpec : ChangeSpec := { name := "fnProps", fn := fun _ => fun
  | [d1, d2] => { results := [.lit (.bool true)], args := [d1, d2] }
  | _ => none }
def fnPropsRow : OpenClaim := { program := "yteaabniemlnjbaa", sum := "a45bf7730d62ddcebb08c781c966a6ddd537ceaaad69b57cc1a661a19de47c7f", func := "loop.example/g00927/laws.FnProps", spec := "fnProps", apart := false }
def FnPropsSaid : Prop := fnPropsRow.holds Try.pinned (OpenSpec.ofChange fnPropsSpec)

/-- ITS FALSE NEIGHBOUR: 'it returns false'. Refute it at one input. -/
def fnPropsWrong : ChangeSpec := { name := "fnProps", fn := fun _ => fun
  | [d1, d2] => { results := [.lit (.bool false)], args := [d1, d2] }
  | _ => none }
def FnPropsWrongFalsely : Prop := fnPropsRow.holds Try.pinned (OpenSpec.ofChange fnPropsWrong)

/-- 'laws.FnOrbits': WHATEVER THE INPUT: true; the input reads as it did. -/
def fnOrbitsSpec : ChangeSpec := { name := "fnOrbits", fn := fun _ => fun
  | [d] => { results := [.lit (.bool true)], args := [d] }
  | _ => none }
def fnOrbitsRow : OpenClaim := { program := "yteaabniemlnjbaa", sum := "a45bf7730d62ddcebb08c781c966a6ddd537ceaaad69b57cc1a661a19de47c7f", func := "loop.example/g00927/laws.FnOrbits", spec := "fnOrbits", apart := false }
def FnOrbitsSaid : Prop := fnOrbitsRow.holds Try.pinned (OpenSpec.ofChange fnOrbitsSpec)

/-- ITS FALSE NEIGHBOUR: 'it returns false'. Refute it at one input. -/
def fnOrbitsWrong : ChangeSpec := { name := "fnOrbits", fn := fun _ => fun
  | [d] => { results := [.lit (.bool false)], args := [d] }
  | _ => none }
def FnOrbitsWrongFalsely : Prop := fnOrbitsRow.holds Try.pinned (OpenSpec.ofChange fnOrbitsWrong)

/-- 'laws.FnPatterns': WHATEVER THE INPUT: true; the input reads as it did. -/
def fnPatternsSpec : ChangeSpec := { name := "fnPatterns", fn := fun _ => fun
  | [d1, d2] => { results := [.lit (.bool true)], args := [d1, d2] }
  | _ => none }
def fnPatternsRow : OpenClaim := { program := "yteaabniemlnjbaa", sum := "a45bf7730d62ddcebb08c781c966a6ddd537ceaaad69b57cc1a661a19de47c7f", func := "loop.example/g00927/laws.FnPatterns", spec := "fnPatterns", apart := false }
def FnPatternsSaid : Prop := fnPatternsRow.holds Try.pinned (OpenSpec.ofChange fnPatternsSpec)

/-- ITS FALSE NEIGHBOUR: 'it returns false'. Refute it at one input. -/
def fnPatternsWrong : ChangeSpec := { name := "fnPatterns", fn := fun _ => fun
  | [d1, d2] => { results := [.lit (.bool false)], args := [d1, d2] }
  | _ => none }
def FnPatternsWrongFalsely : Prop := fnPatternsRow.holds Try.pinned (OpenSpec.ofChange fnPatternsWrong)

/-- 'laws.FnCanons': WHATEVER THE INPUT: true; the input reads as it did. -/
def fnCanonsSpec : ChangeSpec := { name := "fnCanons", fn := fun _ => fun
  | [d1, d2] => { results := [.lit (.bool true)], args := [d1, d2] }
  | _ => none }
def fnCanonsRow : OpenClaim := { program := "yteaabniemlnjbaa", sum := "a45bf7730d62ddcebb08c781c966a6ddd537ceaaad69b57cc1a661a19de47c7f", func := "loop.example/g00927/laws.FnCanons", spec := "fnCanons", apart := false }
def FnCanonsSaid : Prop := fnCanonsRow.holds Try.pinned (OpenSpec.ofChange fnCanonsSpec)

/-- ITS FALSE NEIGHBOUR: 'it returns false'. Refute it at one input. -/
def fnCanonsWrong : ChangeSpec := { name := "fnCanons", fn := fun _ => fun
  | [d1, d2] => { results := [.lit (.bool false)], args := [d1, d2] }
  | _ => none }
def FnCanonsWrongFalsely : Prop := fnCanonsRow.holds Try.pinned (OpenSpec.ofChange fnCanonsWrong)

/- THE SECOND FORM. 'bulk': how many values and letters a reading holds, each counted each time it is reached (what is shared counts as often as it is met; a slice's spare places count too). A statement '..UptoSaid' is the law's where the arguments, and the package variables that the reading takes, are together of bulk at most 1048576: NARROWER than '..Said'. Prove '..Said' where nothing that the law and all that it calls make is longer than what came in: it says more and counts as full. Else prove '..UptoSaid'. A law counts once. -/
mutual
def uptoBulk {H : Type} : DataW H → Nat
  | .lit (.string bytes) => bytes.length + 1
  | .lit _ => 1
  | .nil => 1
  | .ptr d => uptoBulk d + 1
  | .slice elems spare => uptoBulkAll elems + uptoBulkAll spare + 1
  | .agg parts => uptoBulkAll parts + 1
  | .iface _ d => uptoBulk d + 1
  | .map entries => uptoBulkEntries entries + 1
  | .held _ => 1
def uptoBulkAll {H : Type} : List (DataW H) → Nat
  | [] => 0
  | d :: r => uptoBulk d + uptoBulkAll r
def uptoBulkEntries {H : Type} : List (Lit × DataW H) → Nat
  | [] => 0
  | x :: r => uptoBulkEntry x + uptoBulkEntries r
def uptoBulkEntry {H : Type} : Lit × DataW H → Nat
  | (.string bytes, d) => bytes.length + uptoBulk d + 1
  | (_, d) => uptoBulk d + 1
 end
def uptoSmall : (H : Type) → List (DataW H) → Bool := fun _ ds => decide (uptoBulkAll ds ≤ 1048576)
def OpenSpec.upto (s : _root_.Go.ChangeSpec) : _root_.Go.OpenSpec := { _root_.Go.OpenSpec.ofChange s with cond := some uptoSmall }

/-- 'laws.FnExactThrowsOfProp', WHERE WHAT IT READS IS OF BULK AT MOST 1048576: true; the input reads as it did. -/
def fnExactThrowsOfPropUptoRow : OpenClaim := { program := "yteaabniemlnjbaa", sum := "a45bf7730d62ddcebb08c781c966a6ddd537ceaaad69b57cc1a661a19de47c7f", func := "loop.example/g00927/laws.FnExactThrowsOfProp", spec := "fnExactThrowsOfProp", apart := false, narrowed := true }
def FnExactThrowsOfPropUptoSaid : Prop := fnExactThrowsOfPropUptoRow.holds Try.pinned (OpenSpec.upto fnExactThrowsOfPropSpec)

/-- 'laws.FnExactIsPrime', WHERE WHAT IT READS IS OF BULK AT MOST 1048576: true; the input reads as it did. -/
def fnExactIsPrimeUptoRow : OpenClaim := { program := "yteaabniemlnjbaa", sum := "a45bf7730d62ddcebb08c781c966a6ddd537ceaaad69b57cc1a661a19de47c7f", func := "loop.example/g00927/laws.FnExactIsPrime", spec := "fnExactIsPrime", apart := false, narrowed := true }
def FnExactIsPrimeUptoSaid : Prop := fnExactIsPrimeUptoRow.holds Try.pinned (OpenSpec.upto fnExactIsPrimeSpec)

/-- 'laws.FnExactFirstRepeat', WHERE WHAT IT READS IS OF BULK AT MOST 1048576: true; the input reads as it did. -/
def fnExactFirstRepeatUptoRow : OpenClaim := { program := "yteaabniemlnjbaa", sum := "a45bf7730d62ddcebb08c781c966a6ddd537ceaaad69b57cc1a661a19de47c7f", func := "loop.example/g00927/laws.FnExactFirstRepeat", spec := "fnExactFirstRepeat", apart := false, narrowed := true }
def FnExactFirstRepeatUptoSaid : Prop := fnExactFirstRepeatUptoRow.holds Try.pinned (OpenSpec.upto fnExactFirstRepeatSpec)

/-- 'laws.FnExactStateVisits', WHERE WHAT IT READS IS OF BULK AT MOST 1048576: true; the input reads as it did. -/
def fnExactStateVisitsUptoRow : OpenClaim := { program := "yteaabniemlnjbaa", sum := "a45bf7730d62ddcebb08c781c966a6ddd537ceaaad69b57cc1a661a19de47c7f", func := "loop.example/g00927/laws.FnExactStateVisits", spec := "fnExactStateVisits", apart := false, narrowed := true }
def FnExactStateVisitsUptoSaid : Prop := fnExactStateVisitsUptoRow.holds Try.pinned (OpenSpec.upto fnExactStateVisitsSpec)

/-- 'laws.FnExactStatesOf', WHERE WHAT IT READS IS OF BULK AT MOST 1048576: true; the input reads as it did. -/
def fnExactStatesOfUptoRow : OpenClaim := { program := "yteaabniemlnjbaa", sum := "a45bf7730d62ddcebb08c781c966a6ddd537ceaaad69b57cc1a661a19de47c7f", func := "loop.example/g00927/laws.FnExactStatesOf", spec := "fnExactStatesOf", apart := false, narrowed := true }
def FnExactStatesOfUptoSaid : Prop := fnExactStatesOfUptoRow.holds Try.pinned (OpenSpec.upto fnExactStatesOfSpec)

/-- 'laws.FnExactPrimeParts', WHERE WHAT IT READS IS OF BULK AT MOST 1048576: true; the input reads as it did. -/
def fnExactPrimePartsUptoRow : OpenClaim := { program := "yteaabniemlnjbaa", sum := "a45bf7730d62ddcebb08c781c966a6ddd537ceaaad69b57cc1a661a19de47c7f", func := "loop.example/g00927/laws.FnExactPrimeParts", spec := "fnExactPrimeParts", apart := false, narrowed := true }
def FnExactPrimePartsUptoSaid : Prop := fnExactPrimePartsUptoRow.holds Try.pinned (OpenSpec.upto fnExactPrimePartsSpec)

/-- 'laws.FnTurns', WHERE WHAT IT READS IS OF BULK AT MOST 1048576: true; the input reads as it did. -/
def fnTurnsUptoRow : OpenClaim := { program := "yteaabniemlnjbaa", sum := "a45bf7730d62ddcebb08c781c966a6ddd537ceaaad69b57cc1a661a19de47c7f", func := "loop.example/g00927/laws.FnTurns", spec := "fnTurns", apart := false, narrowed := true }
def FnTurnsUptoSaid : Prop := fnTurnsUptoRow.holds Try.pinned (OpenSpec.upto fnTurnsSpec)

/-- 'laws.FnRaised', WHERE WHAT IT READS IS OF BULK AT MOST 1048576: true; the input reads as it did. -/
def fnRaisedUptoRow : OpenClaim := { program := "yteaabniemlnjbaa", sum := "a45bf7730d62ddcebb08c781c966a6ddd537ceaaad69b57cc1a661a19de47c7f", func := "loop.example/g00927/laws.FnRaised", spec := "fnRaised", apart := false, narrowed := true }
def FnRaisedUptoSaid : Prop := fnRaisedUptoRow.holds Try.pinned (OpenSpec.upto fnRaisedSpec)

/-- 'laws.FnProps', WHERE WHAT IT READS IS OF BULK AT MOST 1048576: true; the input reads as it did. -/
def fnPropsUptoRow : OpenClaim := { program := "yteaabniemlnjbaa", sum := "a45bf7730d62ddcebb08c781c966a6ddd537ceaaad69b57cc1a661a19de47c7f", func := "loop.example/g00927/laws.FnProps", spec := "fnProps", apart := false, narrowed := true }
def FnPropsUptoSaid : Prop := fnPropsUptoRow.holds Try.pinned (OpenSpec.upto fnPropsSpec)

/-- 'laws.FnOrbits', WHERE WHAT IT READS IS OF BULK AT MOST 1048576: true; the input reads as it did. -/
def fnOrbitsUptoRow : OpenClaim := { program := "yteaabniemlnjbaa", sum := "a45bf7730d62ddcebb08c781c966a6ddd537ceaaad69b57cc1a661a19de47c7f", func := "loop.example/g00927/laws.FnOrbits", spec := "fnOrbits", apart := false, narrowed := true }
def FnOrbitsUptoSaid : Prop := fnOrbitsUptoRow.holds Try.pinned (OpenSpec.upto fnOrbitsSpec)

/-- 'laws.FnPatterns', WHERE WHAT IT READS IS OF BULK AT MOST 1048576: true; the input reads as it did. -/
def fnPatternsUptoRow : OpenClaim := { program := "yteaabniemlnjbaa", sum := "a45bf7730d62ddcebb08c781c966a6ddd537ceaaad69b57cc1a661a19de47c7f", func := "loop.example/g00927/laws.FnPatterns", spec := "fnPatterns", apart := false, narrowed := true }
def FnPatternsUptoSaid : Prop := fnPatternsUptoRow.holds Try.pinned (OpenSpec.upto fnPatternsSpec)

/-- 'laws.FnCanons', WHERE WHAT IT READS IS OF BULK AT MOST 1048576: true; the input reads as it did. -/
def fnCanonsUptoRow : OpenClaim := { program := "yteaabniemlnjbaa", sum := "a45bf7730d62ddcebb08c781c966a6ddd537ceaaad69b57cc1a661a19de47c7f", func := "loop.example/g00927/laws.FnCanons", spec := "fnCanons", apart := false, narrowed := true }
def FnCanonsUptoSaid : Prop := fnCanonsUptoRow.holds Try.pinned (OpenSpec.upto fnCanonsSpec)

end Rows
end Go.Proofs.Yteaabniemlnjbaa
