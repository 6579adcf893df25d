/-
  No cell of these rows narrows 'for every input' (looked for: loops, veiled, ifaces, maps, wideKeys, modest, calm, conditions, laid).
  DERIVED. THE GIVEN ROWS OF THIS SEAT. 12 by the template 'for every input the law returns true; each argument reads behind the call as it read before'; 0 by the template 'total and deterministic' (their statements: YtegapfkmgfcolaaTotals.lean).
  GIVEN WITH THE SEED: the statements are not yours to turn. If you find one false, say at which input.
  Laid BY PROGRAM, IN A SANDBOX (cutbox-rows.mjs): the forced cells as the released guide's own fill.sh prints them over the translation f45478fa1a23d169… (all of the seat's roots in one cut). By AI agents, Wed Nov 11 2026. No macro, syntax, notation, axiom, sorry.
-/
import Derived.Test.YtegapfkmgfcolaaChecked
import GoSem.Claim
import GoSem.ClaimJoined
import GoSem.ClaimMapViews
import Derived.JoinedTies
import Derived.KernelRfl
namespace Go.Proofs.Ytegapfkmgfcolaa
/- THE CELL 'sum', in the pinned program and in every row, IS THE sha256 OF THE DUMP (.gsa) THAT YtegapfkmgfcolaaProg.lean LOADS. Nothing in Lean hashes anything: it is a label: what it is worth is what the hold of that sum in a sandbox is worth. -/
noncomputable def Try.pinned : Pinned := { name := "ytegapfkmgfcolaa", sum := "f45478fa1a23d1692fb12ae8491706787aeae9158dd0cf5ac8067304b195438f", checked := Try.checked }
namespace Rows
def none {H : Type} : Left H := { results := [], args := [] }

/-- 'laws.FnExactValidState': WHATEVER THE INPUT: true; the input reads as it did. -/
def fnExactValidStateSpec : ChangeSpec := { name := "fnExactValidState", fn := fun _ => fun
  | [d] => { results := [.lit (.bool true)], args := [d] }
  | _ => none }
def fnExactValidStateRow : OpenClaim := { program := "ytegapfkmgfcolaa", sum := "f45478fa1a23d1692fb12ae8491706787aeae9158dd0cf5ac8067304b195438f", func := "loop.example/g00927/laws.FnExactValidState", spec := "fnExactValidState", apart := false }
def FnExactValidStateSaid : Prop := fnExactValidStateRow.holds Try.pinned (OpenSpec.ofChange fnExactValidStateSpec)

/-- ITS FALSE NEIGHBOUR: 'it returns false'. Refute it at one input. -/
def fnExactValidStateWrong : ChangeSpec := { name := "fnExactValidState", fn := fun _ => fun
  | [d] => { results := [.lit (.bool false)], args := [d] }
  | _ => none }
def FnExactValidStateWrongFalsely : Prop := fnExactValidStateRow.holds Try.pinned (OpenSpec.ofChange fnExactValidStateWrong)

/-- 'laws.FnExactGroundState': WHATEVER THE INPUT: true; the input reads as it did. -/
def fnExactGroundStateSpec : ChangeSpec := { name := "fnExactGroundState", fn := fun _ => fun
  | [d1, d2] => { results := [.lit (.bool true)], args := [d1, d2] }
  | _ => none }
def fnExactGroundStateRow : OpenClaim := { program := "ytegapfkmgfcolaa", sum := "f45478fa1a23d1692fb12ae8491706787aeae9158dd0cf5ac8067304b195438f", func := "loop.example/g00927/laws.FnExactGroundState", spec := "fnExactGroundState", apart := false }
def FnExactGroundStateSaid : Prop := fnExactGroundStateRow.holds Try.pinned (OpenSpec.ofChange fnExactGroundStateSpec)

/-- ITS FALSE NEIGHBOUR: 'it returns false'. Refute it at one input. -/
def fnExactGroundStateWrong : ChangeSpec := { name := "fnExactGroundState", fn := fun _ => fun
  | [d1, d2] => { results := [.lit (.bool false)], args := [d1, d2] }
  | _ => none }
def FnExactGroundStateWrongFalsely : Prop := fnExactGroundStateRow.holds Try.pinned (OpenSpec.ofChange fnExactGroundStateWrong)

/-- 'laws.FnExactCanThrow': WHATEVER THE INPUT: true; the input reads as it did. -/
def fnExactCanThrowSpec : ChangeSpec := { name := "fnExactCanThrow", fn := fun _ => fun
  | [d1, d2] => { results := [.lit (.bool true)], args := [d1, d2] }
  | _ => none }
def fnExactCanThrowRow : OpenClaim := { program := "ytegapfkmgfcolaa", sum := "f45478fa1a23d1692fb12ae8491706787aeae9158dd0cf5ac8067304b195438f", func := "loop.example/g00927/laws.FnExactCanThrow", spec := "fnExactCanThrow", apart := false }
def FnExactCanThrowSaid : Prop := fnExactCanThrowRow.holds Try.pinned (OpenSpec.ofChange fnExactCanThrowSpec)

/-- ITS FALSE NEIGHBOUR: 'it returns false'. Refute it at one input. -/
def fnExactCanThrowWrong : ChangeSpec := { name := "fnExactCanThrow", fn := fun _ => fun
  | [d1, d2] => { results := [.lit (.bool false)], args := [d1, d2] }
  | _ => none }
def FnExactCanThrowWrongFalsely : Prop := fnExactCanThrowRow.holds Try.pinned (OpenSpec.ofChange fnExactCanThrowWrong)

/-- 'laws.FnExactMobius': WHATEVER THE INPUT: true; the input reads as it did. -/
def fnExactMobiusSpec : ChangeSpec := { name := "fnExactMobius", fn := fun _ => fun
  | [d] => { results := [.lit (.bool true)], args := [d] }
  | _ => none }
def fnExactMobiusRow : OpenClaim := { program := "ytegapfkmgfcolaa", sum := "f45478fa1a23d1692fb12ae8491706787aeae9158dd0cf5ac8067304b195438f", func := "loop.example/g00927/laws.FnExactMobius", spec := "fnExactMobius", apart := false }
def FnExactMobiusSaid : Prop := fnExactMobiusRow.holds Try.pinned (OpenSpec.ofChange fnExactMobiusSpec)

/-- ITS FALSE NEIGHBOUR: 'it returns false'. Refute it at one input. -/
def fnExactMobiusWrong : ChangeSpec := { name := "fnExactMobius", fn := fun _ => fun
  | [d] => { results := [.lit (.bool false)], args := [d] }
  | _ => none }
def FnExactMobiusWrongFalsely : Prop := fnExactMobiusRow.holds Try.pinned (OpenSpec.ofChange fnExactMobiusWrong)

/-- 'laws.FnMobius': WHATEVER THE INPUT: true; the input reads as it did. -/
def fnMobiusSpec : ChangeSpec := { name := "fnMobius", fn := fun _ => fun
  | [d] => { results := [.lit (.bool true)], args := [d] }
  | _ => none }
def fnMobiusRow : OpenClaim := { program := "ytegapfkmgfcolaa", sum := "f45478fa1a23d1692fb12ae8491706787aeae9158dd0cf5ac8067304b195438f", func := "loop.example/g00927/laws.FnMobius", spec := "fnMobius", apart := false }
def FnMobiusSaid : Prop := fnMobiusRow.holds Try.pinned (OpenSpec.ofChange fnMobiusSpec)

/-- ITS FALSE NEIGHBOUR: 'it returns false'. Refute it at one input. -/
def fnMobiusWrong : ChangeSpec := { name := "fnMobius", fn := fun _ => fun
  | [d] => { results := [.lit (.bool false)], args := [d] }
  | _ => none }
def FnMobiusWrongFalsely : Prop := fnMobiusRow.holds Try.pinned (OpenSpec.ofChange fnMobiusWrong)

/-- 'laws.FnExactStateText': WHATEVER THE INPUT: true; the input reads as it did. -/
def fnExactStateTextSpec : ChangeSpec := { name := "fnExactStateText", fn := fun _ => fun
  | [d] => { results := [.lit (.bool true)], args := [d] }
  | _ => none }
def fnExactStateTextRow : OpenClaim := { program := "ytegapfkmgfcolaa", sum := "f45478fa1a23d1692fb12ae8491706787aeae9158dd0cf5ac8067304b195438f", func := "loop.example/g00927/laws.FnExactStateText", spec := "fnExactStateText", apart := false }
def FnExactStateTextSaid : Prop := fnExactStateTextRow.holds Try.pinned (OpenSpec.ofChange fnExactStateTextSpec)

/-- ITS FALSE NEIGHBOUR: 'it returns false'. Refute it at one input. -/
def fnExactStateTextWrong : ChangeSpec := { name := "fnExactStateText", fn := fun _ => fun
  | [d] => { results := [.lit (.bool false)], args := [d] }
  | _ => none }
def FnExactStateTextWrongFalsely : Prop := fnExactStateTextRow.holds Try.pinned (OpenSpec.ofChange fnExactStateTextWrong)

/-- 'laws.FnExactReadState': WHATEVER THE INPUT: true; the input reads as it did. -/
def fnExactReadStateSpec : ChangeSpec := { name := "fnExactReadState", fn := fun _ => fun
  | [d] => { results := [.lit (.bool true)], args := [d] }
  | _ => none }
def fnExactReadStateRow : OpenClaim := { program := "ytegapfkmgfcolaa", sum := "f45478fa1a23d1692fb12ae8491706787aeae9158dd0cf5ac8067304b195438f", func := "loop.example/g00927/laws.FnExactReadState", spec := "fnExactReadState", apart := false }
def FnExactReadStateSaid : Prop := fnExactReadStateRow.holds Try.pinned (OpenSpec.ofChange fnExactReadStateSpec)

/-- ITS FALSE NEIGHBOUR: 'it returns false'. Refute it at one input. -/
def fnExactReadStateWrong : ChangeSpec := { name := "fnExactReadState", fn := fun _ => fun
  | [d] => { results := [.lit (.bool false)], args := [d] }
  | _ => none }
def FnExactReadStateWrongFalsely : Prop := fnExactReadStateRow.holds Try.pinned (OpenSpec.ofChange fnExactReadStateWrong)

/-- 'laws.FnExactPropsIn': WHATEVER THE INPUT: true; the input reads as it did. -/
def fnExactPropsInSpec : ChangeSpec := { name := "fnExactPropsIn", fn := fun _ => fun
  | [d] => { results := [.lit (.bool true)], args := [d] }
  | _ => none }
def fnExactPropsInRow : OpenClaim := { program := "ytegapfkmgfcolaa", sum := "f45478fa1a23d1692fb12ae8491706787aeae9158dd0cf5ac8067304b195438f", func := "loop.example/g00927/laws.FnExactPropsIn", spec := "fnExactPropsIn", apart := false }
def FnExactPropsInSaid : Prop := fnExactPropsInRow.holds Try.pinned (OpenSpec.ofChange fnExactPropsInSpec)

/-- ITS FALSE NEIGHBOUR: 'it returns false'. Refute it at one input. -/
def fnExactPropsInWrong : ChangeSpec := { name := "fnExactPropsIn", fn := fun _ => fun
  | [d] => { results := [.lit (.bool false)], args := [d] }
  | _ => none }
def FnExactPropsInWrongFalsely : Prop := fnExactPropsInRow.holds Try.pinned (OpenSpec.ofChange fnExactPropsInWrong)

/-- 'laws.FnExactDivisorsOf': WHATEVER THE INPUT: true; the input reads as it did. -/
def fnExactDivisorsOfSpec : ChangeSpec := { name := "fnExactDivisorsOf", fn := fun _ => fun
  | [d] => { results := [.lit (.bool true)], args := [d] }
  | _ => none }
def fnExactDivisorsOfRow : OpenClaim := { program := "ytegapfkmgfcolaa", sum := "f45478fa1a23d1692fb12ae8491706787aeae9158dd0cf5ac8067304b195438f", func := "loop.example/g00927/laws.FnExactDivisorsOf", spec := "fnExactDivisorsOf", apart := false }
def FnExactDivisorsOfSaid : Prop := fnExactDivisorsOfRow.holds Try.pinned (OpenSpec.ofChange fnExactDivisorsOfSpec)

/-- ITS FALSE NEIGHBOUR: 'it returns false'. Refute it at one input. -/
def fnExactDivisorsOfWrong : ChangeSpec := { name := "fnExactDivisorsOf", fn := fun _ => fun
  | [d] => { results := [.lit (.bool false)], args := [d] }
  | _ => none }
def FnExactDivisorsOfWrongFalsely : Prop := fnExactDivisorsOfRow.holds Try.pinned (OpenSpec.ofChange fnExactDivisorsOfWrong)

/-- 'laws.FnExactAverageOf': WHATEVER THE INPUT: true; the input reads as it did. -/
def fnExactAverageOfSpec : ChangeSpec := { name := "fnExactAverageOf", fn := fun _ => fun
  | [d] => { results := [.lit (.bool true)], args := [d] }
  | _ => none }
def fnExactAverageOfRow : OpenClaim := { program := "ytegapfkmgfcolaa", sum := "f45478fa1a23d1692fb12ae8491706787aeae9158dd0cf5ac8067304b195438f", func := "loop.example/g00927/laws.FnExactAverageOf", spec := "fnExactAverageOf", apart := false }
def FnExactAverageOfSaid : Prop := fnExactAverageOfRow.holds Try.pinned (OpenSpec.ofChange fnExactAverageOfSpec)

/-- ITS FALSE NEIGHBOUR: 'it returns false'. Refute it at one input. -/
def fnExactAverageOfWrong : ChangeSpec := { name := "fnExactAverageOf", fn := fun _ => fun
  | [d] => { results := [.lit (.bool false)], args := [d] }
  | _ => none }
def FnExactAverageOfWrongFalsely : Prop := fnExactAverageOfRow.holds Try.pinned (OpenSpec.ofChange fnExactAverageOfWrong)

/-- 'laws.FnExactStateCount': WHATEVER THE INPUT: true; the input reads as it did. -/
def fnExactStateCountSpec : ChangeSpec := { name := "fnExactStateCount", fn := fun _ => fun
  | [d1, d2] => { results := [.lit (.bool true)], args := [d1, d2] }
  | _ => none }
def fnExactStateCountRow : OpenClaim := { program := "ytegapfkmgfcolaa", sum := "f45478fa1a23d1692fb12ae8491706787aeae9158dd0cf5ac8067304b195438f", func := "loop.example/g00927/laws.FnExactStateCount", spec := "fnExactStateCount", apart := false }
def FnExactStateCountSaid : Prop := fnExactStateCountRow.holds Try.pinned (OpenSpec.ofChange fnExactStateCountSpec)

/-- ITS FALSE NEIGHBOUR: 'it returns false'. Refute it at one input. -/
def fnExactStateCountWrong : ChangeSpec := { name := "fnExactStateCount", fn := fun _ => fun
  | [d1, d2] => { results := [.lit (.bool false)], args := [d1, d2] }
  | _ => none }
def FnExactStateCountWrongFalsely : Prop := fnExactStateCountRow.holds Try.pinned (OpenSpec.ofChange fnExactStateCountWrong)

/-- 'laws.FnExactNextState': WHATEVER THE INPUT: true; the input reads as it did. -/
def fnExactNextStateSpec : ChangeSpec := { name := "fnExactNextState", fn := fun _ => fun
  | [d1, d2] => { results := [.lit (.bool true)], args := [d1, d2] }
  | _ => none }
def fnExactNextStateRow : OpenClaim := { program := "ytegapfkmgfcolaa", sum := "f45478fa1a23d1692fb12ae8491706787aeae9158dd0cf5ac8067304b195438f", func := "loop.example/g00927/laws.FnExactNextState", spec := "fnExactNextState", apart := false }
def FnExactNextStateSaid : Prop := fnExactNextStateRow.holds Try.pinned (OpenSpec.ofChange fnExactNextStateSpec)

/-- ITS FALSE NEIGHBOUR: 'it returns false'. Refute it at one input. -/
def fnExactNextStateWrong : ChangeSpec := { name := "fnExactNextState", fn := fun _ => fun
  | [d1, d2] => { results := [.lit (.bool false)], args := [d1, d2] }
  | _ => none }
def FnExactNextStateWrongFalsely : Prop := fnExactNextStateRow.holds Try.pinned (OpenSpec.ofChange fnExactNextStateWrong)

/- THE SECOND FORM. 'bulk': how many values and letters a reading holds, each counted each time it is reached (what is shared counts as often as it is met; a slice's spare places count too). A statement '..UptoSaid' is the law's where the arguments, and the package variables that the reading takes, are together of bulk at most 1048576: NARROWER than '..Said'. Prove '..Said' where nothing that the law and all that it calls make is longer than what came in: it says more and counts as full. Else prove '..UptoSaid'. A law counts once. -/
mutual
def uptoBulk {H : Type} : DataW H → Nat
  | .lit (.string bytes) => bytes.length + 1
  | .lit _ => 1
  | .nil => 1
  | .ptr d => uptoBulk d + 1
  | .slice elems spare => uptoBulkAll elems + uptoBulkAll spare + 1
  | .agg parts => uptoBulkAll parts + 1
  | .iface _ d => uptoBulk d + 1
  | .map entries => uptoBulkEntries entries + 1
  | .held _ => 1
def uptoBulkAll {H : Type} : List (DataW H) → Nat
  | [] => 0
  | d :: r => uptoBulk d + uptoBulkAll r
def uptoBulkEntries {H : Type} : List (Lit × DataW H) → Nat
  | [] => 0
  | x :: r => uptoBulkEntry x + uptoBulkEntries r
def uptoBulkEntry {H : Type} : Lit × DataW H → Nat
  | (.string bytes, d) => bytes.length + uptoBulk d + 1
  | (_, d) => uptoBulk d + 1
 end
def uptoSmall : (H : Type) → List (DataW H) → Bool := fun _ ds => decide (uptoBulkAll ds ≤ 1048576)
def OpenSpec.upto (s : _root_.Go.ChangeSpec) : _root_.Go.OpenSpec := { _root_.Go.OpenSpec.ofChange s with cond := some uptoSmall }

/-- 'laws.FnExactValidState', WHERE WHAT IT READS IS OF BULK AT MOST 1048576: true; the input reads as it did. -/
def fnExactValidStateUptoRow : OpenClaim := { program := "ytegapfkmgfcolaa", sum := "f45478fa1a23d1692fb12ae8491706787aeae9158dd0cf5ac8067304b195438f", func := "loop.example/g00927/laws.FnExactValidState", spec := "fnExactValidState", apart := false, narrowed := true }
def FnExactValidStateUptoSaid : Prop := fnExactValidStateUptoRow.holds Try.pinned (OpenSpec.upto fnExactValidStateSpec)

/-- 'laws.FnExactGroundState', WHERE WHAT IT READS IS OF BULK AT MOST 1048576: true; the input reads as it did. -/
def fnExactGroundStateUptoRow : OpenClaim := { program := "ytegapfkmgfcolaa", sum := "f45478fa1a23d1692fb12ae8491706787aeae9158dd0cf5ac8067304b195438f", func := "loop.example/g00927/laws.FnExactGroundState", spec := "fnExactGroundState", apart := false, narrowed := true }
def FnExactGroundStateUptoSaid : Prop := fnExactGroundStateUptoRow.holds Try.pinned (OpenSpec.upto fnExactGroundStateSpec)

/-- 'laws.FnExactCanThrow', WHERE WHAT IT READS IS OF BULK AT MOST 1048576: true; the input reads as it did. -/
def fnExactCanThrowUptoRow : OpenClaim := { program := "ytegapfkmgfcolaa", sum := "f45478fa1a23d1692fb12ae8491706787aeae9158dd0cf5ac8067304b195438f", func := "loop.example/g00927/laws.FnExactCanThrow", spec := "fnExactCanThrow", apart := false, narrowed := true }
def FnExactCanThrowUptoSaid : Prop := fnExactCanThrowUptoRow.holds Try.pinned (OpenSpec.upto fnExactCanThrowSpec)

/-- 'laws.FnExactMobius', WHERE WHAT IT READS IS OF BULK AT MOST 1048576: true; the input reads as it did. -/
def fnExactMobiusUptoRow : OpenClaim := { program := "ytegapfkmgfcolaa", sum := "f45478fa1a23d1692fb12ae8491706787aeae9158dd0cf5ac8067304b195438f", func := "loop.example/g00927/laws.FnExactMobius", spec := "fnExactMobius", apart := false, narrowed := true }
def FnExactMobiusUptoSaid : Prop := fnExactMobiusUptoRow.holds Try.pinned (OpenSpec.upto fnExactMobiusSpec)

/-- 'laws.FnMobius', WHERE WHAT IT READS IS OF BULK AT MOST 1048576: true; the input reads as it did. -/
def fnMobiusUptoRow : OpenClaim := { program := "ytegapfkmgfcolaa", sum := "f45478fa1a23d1692fb12ae8491706787aeae9158dd0cf5ac8067304b195438f", func := "loop.example/g00927/laws.FnMobius", spec := "fnMobius", apart := false, narrowed := true }
def FnMobiusUptoSaid : Prop := fnMobiusUptoRow.holds Try.pinned (OpenSpec.upto fnMobiusSpec)

/-- 'laws.FnExactStateText', WHERE WHAT IT READS IS OF BULK AT MOST 1048576: true; the input reads as it did. -/
def fnExactStateTextUptoRow : OpenClaim := { program := "ytegapfkmgfcolaa", sum := "f45478fa1a23d1692fb12ae8491706787aeae9158dd0cf5ac8067304b195438f", func := "loop.example/g00927/laws.FnExactStateText", spec := "fnExactStateText", apart := false, narrowed := true }
def FnExactStateTextUptoSaid : Prop := fnExactStateTextUptoRow.holds Try.pinned (OpenSpec.upto fnExactStateTextSpec)

/-- 'laws.FnExactReadState', WHERE WHAT IT READS IS OF BULK AT MOST 1048576: true; the input reads as it did. -/
def fnExactReadStateUptoRow : OpenClaim := { program := "ytegapfkmgfcolaa", sum := "f45478fa1a23d1692fb12ae8491706787aeae9158dd0cf5ac8067304b195438f", func := "loop.example/g00927/laws.FnExactReadState", spec := "fnExactReadState", apart := false, narrowed := true }
def FnExactReadStateUptoSaid : Prop := fnExactReadStateUptoRow.holds Try.pinned (OpenSpec.upto fnExactReadStateSpec)

/-- 'laws.FnExactPropsIn', WHERE WHAT IT READS IS OF BULK AT MOST 1048576: true; the input reads as it did. -/
def fnExactPropsInUptoRow : OpenClaim := { program := "ytegapfkmgfcolaa", sum := "f45478fa1a23d1692fb12ae8491706787aeae9158dd0cf5ac8067304b195438f", func := "loop.example/g00927/laws.FnExactPropsIn", spec := "fnExactPropsIn", apart := false, narrowed := true }
def FnExactPropsInUptoSaid : Prop := fnExactPropsInUptoRow.holds Try.pinned (OpenSpec.upto fnExactPropsInSpec)

/-- 'laws.FnExactDivisorsOf', WHERE WHAT IT READS IS OF BULK AT MOST 1048576: true; the input reads as it did. -/
def fnExactDivisorsOfUptoRow : OpenClaim := { program := "ytegapfkmgfcolaa", sum := "f45478fa1a23d1692fb12ae8491706787aeae9158dd0cf5ac8067304b195438f", func := "loop.example/g00927/laws.FnExactDivisorsOf", spec := "fnExactDivisorsOf", apart := false, narrowed := true }
def FnExactDivisorsOfUptoSaid : Prop := fnExactDivisorsOfUptoRow.holds Try.pinned (OpenSpec.upto fnExactDivisorsOfSpec)

/-- 'laws.FnExactAverageOf', WHERE WHAT IT READS IS OF BULK AT MOST 1048576: true; the input reads as it did. -/
def fnExactAverageOfUptoRow : OpenClaim := { program := "ytegapfkmgfcolaa", sum := "f45478fa1a23d1692fb12ae8491706787aeae9158dd0cf5ac8067304b195438f", func := "loop.example/g00927/laws.FnExactAverageOf", spec := "fnExactAverageOf", apart := false, narrowed := true }
def FnExactAverageOfUptoSaid : Prop := fnExactAverageOfUptoRow.holds Try.pinned (OpenSpec.upto fnExactAverageOfSpec)

/-- 'laws.FnExactStateCount', WHERE WHAT IT READS IS OF BULK AT MOST 1048576: true; the input reads as it did. -/
def fnExactStateCountUptoRow : OpenClaim := { program := "ytegapfkmgfcolaa", sum := "f45478fa1a23d1692fb12ae8491706787aeae9158dd0cf5ac8067304b195438f", func := "loop.example/g00927/laws.FnExactStateCount", spec := "fnExactStateCount", apart := false, narrowed := true }
def FnExactStateCountUptoSaid : Prop := fnExactStateCountUptoRow.holds Try.pinned (OpenSpec.upto fnExactStateCountSpec)

/-- 'laws.FnExactNextState', WHERE WHAT IT READS IS OF BULK AT MOST 1048576: true; the input reads as it did. -/
def fnExactNextStateUptoRow : OpenClaim := { program := "ytegapfkmgfcolaa", sum := "f45478fa1a23d1692fb12ae8491706787aeae9158dd0cf5ac8067304b195438f", func := "loop.example/g00927/laws.FnExactNextState", spec := "fnExactNextState", apart := false, narrowed := true }
def FnExactNextStateUptoSaid : Prop := fnExactNextStateUptoRow.holds Try.pinned (OpenSpec.upto fnExactNextStateSpec)

end Rows
end Go.Proofs.Ytegapfkmgfcolaa
