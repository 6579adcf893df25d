/-
  No cell of these rows narrows 'for every input' (looked for: loops, veiled, ifaces, maps, wideKeys, modest, calm, conditions, laid).
  DERIVED. THE GIVEN ROWS OF THIS SEAT. 6 by the template 'for every input the law returns true; each argument reads behind the call as it read before'; 0 by the template 'total and deterministic' (their statements: YtlbhfjbbkkkldaaTotals.lean).
  GIVEN WITH THE SEED: the statements are not yours to turn. If you find one false, say at which input.
  Laid BY PROGRAM, IN A SANDBOX (cutbox-rows.mjs): the forced cells as the released guide's own fill.sh prints them over the translation 887ba27e9392b83b… (all of the seat's roots in one cut). By AI agents, Wed Nov 11 2026. No macro, syntax, notation, axiom, sorry.
-/
import Derived.Test.YtlbhfjbbkkkldaaChecked
import GoSem.Claim
import GoSem.ClaimJoined
import GoSem.ClaimMapViews
import Derived.JoinedTies
import Derived.KernelRfl
namespace Go.Proofs.Ytlbhfjbbkkkldaa
/- THE CELL 'sum', in the pinned program and in every row, IS THE sha256 OF THE DUMP (.gsa) THAT YtlbhfjbbkkkldaaProg.lean LOADS. Nothing in Lean hashes anything: it is a label: what it is worth is what the hold of that sum in a sandbox is worth. -/
noncomputable def Try.pinned : Pinned := { name := "ytlbhfjbbkkkldaa", sum := "887ba27e9392b83b54b5592e6c66bf6ddc9754fb613e9c254ad4b09790fcba04", checked := Try.checked }
namespace Rows
def none {H : Type} : Left H := { results := [], args := [] }

/-- 'laws.FnMultiTexts': WHATEVER THE INPUT: true; the input reads as it did. -/
def fnMultiTextsSpec : ChangeSpec := { name := "fnMultiTexts", fn := fun _ => fun
  | [d] => { results := [.lit (.bool true)], args := [d] }
  | _ => none }
def fnMultiTextsRow : OpenClaim := { program := "ytlbhfjbbkkkldaa", sum := "887ba27e9392b83b54b5592e6c66bf6ddc9754fb613e9c254ad4b09790fcba04", func := "loop.example/g00927/laws.FnMultiTexts", spec := "fnMultiTexts", apart := false }
def FnMultiTextsSaid : Prop := fnMultiTextsRow.holds Try.pinned (OpenSpec.ofChange fnMultiTextsSpec)

/-- ITS FALSE NEIGHBOUR: 'it returns false'. Refute it at one input. -/
def fnMultiTextsWrong : ChangeSpec := { name := "fnMultiTexts", fn := fun _ => fun
  | [d] => { results := [.lit (.bool false)], args := [d] }
  | _ => none }
def FnMultiTextsWrongFalsely : Prop := fnMultiTextsRow.holds Try.pinned (OpenSpec.ofChange fnMultiTextsWrong)

/-- 'laws.FnPassingTexts': WHATEVER THE INPUT: true; the input reads as it did. -/
def fnPassingTextsSpec : ChangeSpec := { name := "fnPassingTexts", fn := fun _ => fun
  | [d] => { results := [.lit (.bool true)], args := [d] }
  | _ => none }
def fnPassingTextsRow : OpenClaim := { program := "ytlbhfjbbkkkldaa", sum := "887ba27e9392b83b54b5592e6c66bf6ddc9754fb613e9c254ad4b09790fcba04", func := "loop.example/g00927/laws.FnPassingTexts", spec := "fnPassingTexts", apart := false }
def FnPassingTextsSaid : Prop := fnPassingTextsRow.holds Try.pinned (OpenSpec.ofChange fnPassingTextsSpec)

/-- ITS FALSE NEIGHBOUR: 'it returns false'. Refute it at one input. -/
def fnPassingTextsWrong : ChangeSpec := { name := "fnPassingTexts", fn := fun _ => fun
  | [d] => { results := [.lit (.bool false)], args := [d] }
  | _ => none }
def FnPassingTextsWrongFalsely : Prop := fnPassingTextsRow.holds Try.pinned (OpenSpec.ofChange fnPassingTextsWrong)

/-- 'laws.FnTogether': WHATEVER THE INPUT: true; the input reads as it did. -/
def fnTogetherSpec : ChangeSpec := { name := "fnTogether", fn := fun _ => fun
  | [d] => { results := [.lit (.bool true)], args := [d] }
  | _ => none }
def fnTogetherRow : OpenClaim := { program := "ytlbhfjbbkkkldaa", sum := "887ba27e9392b83b54b5592e6c66bf6ddc9754fb613e9c254ad4b09790fcba04", func := "loop.example/g00927/laws.FnTogether", spec := "fnTogether", apart := false }
def FnTogetherSaid : Prop := fnTogetherRow.holds Try.pinned (OpenSpec.ofChange fnTogetherSpec)

/-- ITS FALSE NEIGHBOUR: 'it returns false'. Refute it at one input. -/
def fnTogetherWrong : ChangeSpec := { name := "fnTogether", fn := fun _ => fun
  | [d] => { results := [.lit (.bool false)], args := [d] }
  | _ => none }
def FnTogetherWrongFalsely : Prop := fnTogetherRow.holds Try.pinned (OpenSpec.ofChange fnTogetherWrong)

/-- 'laws.FnMultis': WHATEVER THE INPUT: true; the input reads as it did. -/
def fnMultisSpec : ChangeSpec := { name := "fnMultis", fn := fun _ => fun
  | [d] => { results := [.lit (.bool true)], args := [d] }
  | _ => none }
def fnMultisRow : OpenClaim := { program := "ytlbhfjbbkkkldaa", sum := "887ba27e9392b83b54b5592e6c66bf6ddc9754fb613e9c254ad4b09790fcba04", func := "loop.example/g00927/laws.FnMultis", spec := "fnMultis", inPlace := ["internal/reflectlite.ValueOf", "internal/reflectlite.Swapper", "(internal/reflectlite.Value).Len"], unfollowed := true, recurses := true, apart := false }
def FnMultisSaid : Prop := fnMultisRow.holds Try.pinned (OpenSpec.ofChange fnMultisSpec)

/-- ITS FALSE NEIGHBOUR: 'it returns false'. Refute it at one input. -/
def fnMultisWrong : ChangeSpec := { name := "fnMultis", fn := fun _ => fun
  | [d] => { results := [.lit (.bool false)], args := [d] }
  | _ => none }
def FnMultisWrongFalsely : Prop := fnMultisRow.holds Try.pinned (OpenSpec.ofChange fnMultisWrong)

/-- 'laws.FnSingles': WHATEVER THE INPUT: true; the input reads as it did. -/
def fnSinglesSpec : ChangeSpec := { name := "fnSingles", fn := fun _ => fun
  | [d] => { results := [.lit (.bool true)], args := [d] }
  | _ => none }
def fnSinglesRow : OpenClaim := { program := "ytlbhfjbbkkkldaa", sum := "887ba27e9392b83b54b5592e6c66bf6ddc9754fb613e9c254ad4b09790fcba04", func := "loop.example/g00927/laws.FnSingles", spec := "fnSingles", inPlace := ["internal/reflectlite.ValueOf", "internal/reflectlite.Swapper", "(internal/reflectlite.Value).Len"], unfollowed := true, recurses := true, apart := false }
def FnSinglesSaid : Prop := fnSinglesRow.holds Try.pinned (OpenSpec.ofChange fnSinglesSpec)

/-- ITS FALSE NEIGHBOUR: 'it returns false'. Refute it at one input. -/
def fnSinglesWrong : ChangeSpec := { name := "fnSingles", fn := fun _ => fun
  | [d] => { results := [.lit (.bool false)], args := [d] }
  | _ => none }
def FnSinglesWrongFalsely : Prop := fnSinglesRow.holds Try.pinned (OpenSpec.ofChange fnSinglesWrong)

/-- 'laws.FnPrimes': WHATEVER THE INPUT: true; the input reads as it did. -/
def fnPrimesSpec : ChangeSpec := { name := "fnPrimes", fn := fun _ => fun
  | [d] => { results := [.lit (.bool true)], args := [d] }
  | _ => none }
def fnPrimesRow : OpenClaim := { program := "ytlbhfjbbkkkldaa", sum := "887ba27e9392b83b54b5592e6c66bf6ddc9754fb613e9c254ad4b09790fcba04", func := "loop.example/g00927/laws.FnPrimes", spec := "fnPrimes", apart := false }
def FnPrimesSaid : Prop := fnPrimesRow.holds Try.pinned (OpenSpec.ofChange fnPrimesSpec)

/-- ITS FALSE NEIGHBOUR: 'it returns false'. Refute it at one input. -/
def fnPrimesWrong : ChangeSpec := { name := "fnPrimes", fn := fun _ => fun
  | [d] => { results := [.lit (.bool false)], args := [d] }
  | _ => none }
def FnPrimesWrongFalsely : Prop := fnPrimesRow.holds Try.pinned (OpenSpec.ofChange fnPrimesWrong)

/- THE SECOND FORM. 'bulk': how many values and letters a reading holds, each counted each time it is reached (what is shared counts as often as it is met; a slice's spare places count too). A statement '..UptoSaid' is the law's where the arguments, and the package variables that the reading takes, are together of bulk at most 1048576: NARROWER than '..Said'. Prove '..Said' where nothing that the law and all that it calls make is longer than what came in: it says more and counts as full. Else prove '..UptoSaid'. A law counts once. -/
mutual
def uptoBulk {H : Type} : DataW H → Nat
  | .lit (.string bytes) => bytes.length + 1
  | .lit _ => 1
  | .nil => 1
  | .ptr d => uptoBulk d + 1
  | .slice elems spare => uptoBulkAll elems + uptoBulkAll spare + 1
  | .agg parts => uptoBulkAll parts + 1
  | .iface _ d => uptoBulk d + 1
  | .map entries => uptoBulkEntries entries + 1
  | .held _ => 1
def uptoBulkAll {H : Type} : List (DataW H) → Nat
  | [] => 0
  | d :: r => uptoBulk d + uptoBulkAll r
def uptoBulkEntries {H : Type} : List (Lit × DataW H) → Nat
  | [] => 0
  | x :: r => uptoBulkEntry x + uptoBulkEntries r
def uptoBulkEntry {H : Type} : Lit × DataW H → Nat
  | (.string bytes, d) => bytes.length + uptoBulk d + 1
  | (_, d) => uptoBulk d + 1
 end
def uptoSmall : (H : Type) → List (DataW H) → Bool := fun _ ds => decide (uptoBulkAll ds ≤ 1048576)
def OpenSpec.upto (s : _root_.Go.ChangeSpec) : _root_.Go.OpenSpec := { _root_.Go.OpenSpec.ofChange s with cond := some uptoSmall }

/-- 'laws.FnMultiTexts', WHERE WHAT IT READS IS OF BULK AT MOST 1048576: true; the input reads as it did. -/
def fnMultiTextsUptoRow : OpenClaim := { program := "ytlbhfjbbkkkldaa", sum := "887ba27e9392b83b54b5592e6c66bf6ddc9754fb613e9c254ad4b09790fcba04", func := "loop.example/g00927/laws.FnMultiTexts", spec := "fnMultiTexts", apart := false, narrowed := true }
def FnMultiTextsUptoSaid : Prop := fnMultiTextsUptoRow.holds Try.pinned (OpenSpec.upto fnMultiTextsSpec)

/-- 'laws.FnPassingTexts', WHERE WHAT IT READS IS OF BULK AT MOST 1048576: true; the input reads as it did. -/
def fnPassingTextsUptoRow : OpenClaim := { program := "ytlbhfjbbkkkldaa", sum := "887ba27e9392b83b54b5592e6c66bf6ddc9754fb613e9c254ad4b09790fcba04", func := "loop.example/g00927/laws.FnPassingTexts", spec := "fnPassingTexts", apart := false, narrowed := true }
def FnPassingTextsUptoSaid : Prop := fnPassingTextsUptoRow.holds Try.pinned (OpenSpec.upto fnPassingTextsSpec)

/-- 'laws.FnTogether', WHERE WHAT IT READS IS OF BULK AT MOST 1048576: true; the input reads as it did. -/
def fnTogetherUptoRow : OpenClaim := { program := "ytlbhfjbbkkkldaa", sum := "887ba27e9392b83b54b5592e6c66bf6ddc9754fb613e9c254ad4b09790fcba04", func := "loop.example/g00927/laws.FnTogether", spec := "fnTogether", apart := false, narrowed := true }
def FnTogetherUptoSaid : Prop := fnTogetherUptoRow.holds Try.pinned (OpenSpec.upto fnTogetherSpec)

/-- 'laws.FnMultis', WHERE WHAT IT READS IS OF BULK AT MOST 1048576: true; the input reads as it did. -/
def fnMultisUptoRow : OpenClaim := { program := "ytlbhfjbbkkkldaa", sum := "887ba27e9392b83b54b5592e6c66bf6ddc9754fb613e9c254ad4b09790fcba04", func := "loop.example/g00927/laws.FnMultis", spec := "fnMultis", inPlace := ["internal/reflectlite.ValueOf", "internal/reflectlite.Swapper", "(internal/reflectlite.Value).Len"], unfollowed := true, recurses := true, apart := false, narrowed := true }
def FnMultisUptoSaid : Prop := fnMultisUptoRow.holds Try.pinned (OpenSpec.upto fnMultisSpec)

/-- 'laws.FnSingles', WHERE WHAT IT READS IS OF BULK AT MOST 1048576: true; the input reads as it did. -/
def fnSinglesUptoRow : OpenClaim := { program := "ytlbhfjbbkkkldaa", sum := "887ba27e9392b83b54b5592e6c66bf6ddc9754fb613e9c254ad4b09790fcba04", func := "loop.example/g00927/laws.FnSingles", spec := "fnSingles", inPlace := ["internal/reflectlite.ValueOf", "internal/reflectlite.Swapper", "(internal/reflectlite.Value).Len"], unfollowed := true, recurses := true, apart := false, narrowed := true }
def FnSinglesUptoSaid : Prop := fnSinglesUptoRow.holds Try.pinned (OpenSpec.upto fnSinglesSpec)

/-- 'laws.FnPrimes', WHERE WHAT IT READS IS OF BULK AT MOST 1048576: true; the input reads as it did. -/
def fnPrimesUptoRow : OpenClaim := { program := "ytlbhfjbbkkkldaa", sum := "887ba27e9392b83b54b5592e6c66bf6ddc9754fb613e9c254ad4b09790fcba04", func := "loop.example/g00927/laws.FnPrimes", spec := "fnPrimes", apart := false, narrowed := true }
def FnPrimesUptoSaid : Prop := fnPrimesUptoRow.holds Try.pinned (OpenSpec.upto fnPrimesSpec)

end Rows
end Go.Proofs.Ytlbhfjbbkkkldaa
