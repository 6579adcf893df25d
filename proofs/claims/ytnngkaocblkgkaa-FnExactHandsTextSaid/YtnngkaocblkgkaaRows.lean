/-
  No cell of these rows narrows 'for every input' (looked for: loops, veiled, ifaces, maps, wideKeys, modest, calm, conditions, laid).
  DERIVED. THE GIVEN ROWS OF THIS SEAT. 12 by the template 'for every input the law returns true; each argument reads behind the call as it read before'; 0 by the template 'total and deterministic' (their statements: YtnngkaocblkgkaaTotals.lean).
  GIVEN WITH THE SEED: the statements are not yours to turn. If you find one false, say at which input.
  Laid BY PROGRAM, IN A SANDBOX (cutbox-rows.mjs): the forced cells as the released guide's own fill.sh prints them over the translation 4a43dea8085eea6b… (all of the seat's roots in one cut). By AI agents, Wed Nov 11 2026. No macro, syntax, notation, axiom, sorry.
-/
import Derived.Test.YtnngkaocblkgkaaChecked
import GoSem.Claim
import GoSem.ClaimJoined
import GoSem.ClaimMapViews
import Derived.JoinedTies
import Derived.KernelRfl
namespace Go.Proofs.Ytnngkaocblkgkaa
/- THE CELL 'sum', in the pinned program and in every row, IS THE sha256 OF THE DUMP (.gsa) THAT YtnngkaocblkgkaaProg.lean LOADS. Nothing in Lean hashes anything: it is a label: what it is worth is what the hold of that sum in a sandbox is worth. -/
noncomputable def Try.pinned : Pinned := { name := "ytnngkaocblkgkaa", sum := "4a43dea8085eea6b20d3f84e23ac987c144e80608059c5b07c573bcfbed5e2d2", checked := Try.checked }
namespace Rows
def none {H : Type} : Left H := { results := [], args := [] }

/-- 'laws.FnExactStateAt': WHATEVER THE INPUT: true; the input reads as it did. -/
def fnExactStateAtSpec : ChangeSpec := { name := "fnExactStateAt", fn := fun _ => fun
  | [d1, d2, d3] => { results := [.lit (.bool true)], args := [d1, d2, d3] }
  | _ => none }
def fnExactStateAtRow : OpenClaim := { program := "ytnngkaocblkgkaa", sum := "4a43dea8085eea6b20d3f84e23ac987c144e80608059c5b07c573bcfbed5e2d2", func := "loop.example/g00927/laws.FnExactStateAt", spec := "fnExactStateAt", apart := false }
def FnExactStateAtSaid : Prop := fnExactStateAtRow.holds Try.pinned (OpenSpec.ofChange fnExactStateAtSpec)

/-- ITS FALSE NEIGHBOUR: 'it returns false'. Refute it at one input. -/
def fnExactStateAtWrong : ChangeSpec := { name := "fnExactStateAt", fn := fun _ => fun
  | [d1, d2, d3] => { results := [.lit (.bool false)], args := [d1, d2, d3] }
  | _ => none }
def FnExactStateAtWrongFalsely : Prop := fnExactStateAtRow.holds Try.pinned (OpenSpec.ofChange fnExactStateAtWrong)

/-- 'laws.FnExactValidHands': WHATEVER THE INPUT: true; the input reads as it did. -/
def fnExactValidHandsSpec : ChangeSpec := { name := "fnExactValidHands", fn := fun _ => fun
  | [d] => { results := [.lit (.bool true)], args := [d] }
  | _ => none }
def fnExactValidHandsRow : OpenClaim := { program := "ytnngkaocblkgkaa", sum := "4a43dea8085eea6b20d3f84e23ac987c144e80608059c5b07c573bcfbed5e2d2", func := "loop.example/g00927/laws.FnExactValidHands", spec := "fnExactValidHands", apart := false }
def FnExactValidHandsSaid : Prop := fnExactValidHandsRow.holds Try.pinned (OpenSpec.ofChange fnExactValidHandsSpec)

/-- ITS FALSE NEIGHBOUR: 'it returns false'. Refute it at one input. -/
def fnExactValidHandsWrong : ChangeSpec := { name := "fnExactValidHands", fn := fun _ => fun
  | [d] => { results := [.lit (.bool false)], args := [d] }
  | _ => none }
def FnExactValidHandsWrongFalsely : Prop := fnExactValidHandsRow.holds Try.pinned (OpenSpec.ofChange fnExactValidHandsWrong)

/-- 'laws.FnExactStateIndex': WHATEVER THE INPUT: true; the input reads as it did. -/
def fnExactStateIndexSpec : ChangeSpec := { name := "fnExactStateIndex", fn := fun _ => fun
  | [d] => { results := [.lit (.bool true)], args := [d] }
  | _ => none }
def fnExactStateIndexRow : OpenClaim := { program := "ytnngkaocblkgkaa", sum := "4a43dea8085eea6b20d3f84e23ac987c144e80608059c5b07c573bcfbed5e2d2", func := "loop.example/g00927/laws.FnExactStateIndex", spec := "fnExactStateIndex", apart := false }
def FnExactStateIndexSaid : Prop := fnExactStateIndexRow.holds Try.pinned (OpenSpec.ofChange fnExactStateIndexSpec)

/-- ITS FALSE NEIGHBOUR: 'it returns false'. Refute it at one input. -/
def fnExactStateIndexWrong : ChangeSpec := { name := "fnExactStateIndex", fn := fun _ => fun
  | [d] => { results := [.lit (.bool false)], args := [d] }
  | _ => none }
def FnExactStateIndexWrongFalsely : Prop := fnExactStateIndexRow.holds Try.pinned (OpenSpec.ofChange fnExactStateIndexWrong)

/-- 'laws.FnExactRunThrows': WHATEVER THE INPUT: true; the input reads as it did. -/
def fnExactRunThrowsSpec : ChangeSpec := { name := "fnExactRunThrows", fn := fun _ => fun
  | [d1, d2] => { results := [.lit (.bool true)], args := [d1, d2] }
  | _ => none }
def fnExactRunThrowsRow : OpenClaim := { program := "ytnngkaocblkgkaa", sum := "4a43dea8085eea6b20d3f84e23ac987c144e80608059c5b07c573bcfbed5e2d2", func := "loop.example/g00927/laws.FnExactRunThrows", spec := "fnExactRunThrows", apart := false }
def FnExactRunThrowsSaid : Prop := fnExactRunThrowsRow.holds Try.pinned (OpenSpec.ofChange fnExactRunThrowsSpec)

/-- ITS FALSE NEIGHBOUR: 'it returns false'. Refute it at one input. -/
def fnExactRunThrowsWrong : ChangeSpec := { name := "fnExactRunThrows", fn := fun _ => fun
  | [d1, d2] => { results := [.lit (.bool false)], args := [d1, d2] }
  | _ => none }
def FnExactRunThrowsWrongFalsely : Prop := fnExactRunThrowsRow.holds Try.pinned (OpenSpec.ofChange fnExactRunThrowsWrong)

/-- 'laws.FnExactHandAt': WHATEVER THE INPUT: true; the input reads as it did. -/
def fnExactHandAtSpec : ChangeSpec := { name := "fnExactHandAt", fn := fun _ => fun
  | [d1, d2] => { results := [.lit (.bool true)], args := [d1, d2] }
  | _ => none }
def fnExactHandAtRow : OpenClaim := { program := "ytnngkaocblkgkaa", sum := "4a43dea8085eea6b20d3f84e23ac987c144e80608059c5b07c573bcfbed5e2d2", func := "loop.example/g00927/laws.FnExactHandAt", spec := "fnExactHandAt", apart := false }
def FnExactHandAtSaid : Prop := fnExactHandAtRow.holds Try.pinned (OpenSpec.ofChange fnExactHandAtSpec)

/-- ITS FALSE NEIGHBOUR: 'it returns false'. Refute it at one input. -/
def fnExactHandAtWrong : ChangeSpec := { name := "fnExactHandAt", fn := fun _ => fun
  | [d1, d2] => { results := [.lit (.bool false)], args := [d1, d2] }
  | _ => none }
def FnExactHandAtWrongFalsely : Prop := fnExactHandAtRow.holds Try.pinned (OpenSpec.ofChange fnExactHandAtWrong)

/-- 'laws.FnExactHandsText': WHATEVER THE INPUT: true; the input reads as it did. -/
def fnExactHandsTextSpec : ChangeSpec := { name := "fnExactHandsText", fn := fun _ => fun
  | [d] => { results := [.lit (.bool true)], args := [d] }
  | _ => none }
def fnExactHandsTextRow : OpenClaim := { program := "ytnngkaocblkgkaa", sum := "4a43dea8085eea6b20d3f84e23ac987c144e80608059c5b07c573bcfbed5e2d2", func := "loop.example/g00927/laws.FnExactHandsText", spec := "fnExactHandsText", apart := false }
def FnExactHandsTextSaid : Prop := fnExactHandsTextRow.holds Try.pinned (OpenSpec.ofChange fnExactHandsTextSpec)

/-- ITS FALSE NEIGHBOUR: 'it returns false'. Refute it at one input. -/
def fnExactHandsTextWrong : ChangeSpec := { name := "fnExactHandsText", fn := fun _ => fun
  | [d] => { results := [.lit (.bool false)], args := [d] }
  | _ => none }
def FnExactHandsTextWrongFalsely : Prop := fnExactHandsTextRow.holds Try.pinned (OpenSpec.ofChange fnExactHandsTextWrong)

/-- 'laws.FnExactAllStates': WHATEVER THE INPUT: true; the input reads as it did. -/
def fnExactAllStatesSpec : ChangeSpec := { name := "fnExactAllStates", fn := fun _ => fun
  | [d1, d2] => { results := [.lit (.bool true)], args := [d1, d2] }
  | _ => none }
def fnExactAllStatesRow : OpenClaim := { program := "ytnngkaocblkgkaa", sum := "4a43dea8085eea6b20d3f84e23ac987c144e80608059c5b07c573bcfbed5e2d2", func := "loop.example/g00927/laws.FnExactAllStates", spec := "fnExactAllStates", apart := false }
def FnExactAllStatesSaid : Prop := fnExactAllStatesRow.holds Try.pinned (OpenSpec.ofChange fnExactAllStatesSpec)

/-- ITS FALSE NEIGHBOUR: 'it returns false'. Refute it at one input. -/
def fnExactAllStatesWrong : ChangeSpec := { name := "fnExactAllStates", fn := fun _ => fun
  | [d1, d2] => { results := [.lit (.bool false)], args := [d1, d2] }
  | _ => none }
def FnExactAllStatesWrongFalsely : Prop := fnExactAllStatesRow.holds Try.pinned (OpenSpec.ofChange fnExactAllStatesWrong)

/-- 'laws.FnExactReadHands': WHATEVER THE INPUT: true; the input reads as it did. -/
def fnExactReadHandsSpec : ChangeSpec := { name := "fnExactReadHands", fn := fun _ => fun
  | [d] => { results := [.lit (.bool true)], args := [d] }
  | _ => none }
def fnExactReadHandsRow : OpenClaim := { program := "ytnngkaocblkgkaa", sum := "4a43dea8085eea6b20d3f84e23ac987c144e80608059c5b07c573bcfbed5e2d2", func := "loop.example/g00927/laws.FnExactReadHands", spec := "fnExactReadHands", apart := false }
def FnExactReadHandsSaid : Prop := fnExactReadHandsRow.holds Try.pinned (OpenSpec.ofChange fnExactReadHandsSpec)

/-- ITS FALSE NEIGHBOUR: 'it returns false'. Refute it at one input. -/
def fnExactReadHandsWrong : ChangeSpec := { name := "fnExactReadHands", fn := fun _ => fun
  | [d] => { results := [.lit (.bool false)], args := [d] }
  | _ => none }
def FnExactReadHandsWrongFalsely : Prop := fnExactReadHandsRow.holds Try.pinned (OpenSpec.ofChange fnExactReadHandsWrong)

/-- 'laws.FnCollisions': WHATEVER THE INPUT: true; the input reads as it did. -/
def fnCollisionsSpec : ChangeSpec := { name := "fnCollisions", fn := fun _ => fun
  | [d1, d2] => { results := [.lit (.bool true)], args := [d1, d2] }
  | _ => none }
def fnCollisionsRow : OpenClaim := { program := "ytnngkaocblkgkaa", sum := "4a43dea8085eea6b20d3f84e23ac987c144e80608059c5b07c573bcfbed5e2d2", func := "loop.example/g00927/laws.FnCollisions", spec := "fnCollisions", apart := false }
def FnCollisionsSaid : Prop := fnCollisionsRow.holds Try.pinned (OpenSpec.ofChange fnCollisionsSpec)

/-- ITS FALSE NEIGHBOUR: 'it returns false'. Refute it at one input. -/
def fnCollisionsWrong : ChangeSpec := { name := "fnCollisions", fn := fun _ => fun
  | [d1, d2] => { results := [.lit (.bool false)], args := [d1, d2] }
  | _ => none }
def FnCollisionsWrongFalsely : Prop := fnCollisionsRow.holds Try.pinned (OpenSpec.ofChange fnCollisionsWrong)

/-- 'laws.FnExactRenameHands': WHATEVER THE INPUT: true; the input reads as it did. -/
def fnExactRenameHandsSpec : ChangeSpec := { name := "fnExactRenameHands", fn := fun _ => fun
  | [d1, d2] => { results := [.lit (.bool true)], args := [d1, d2] }
  | _ => none }
def fnExactRenameHandsRow : OpenClaim := { program := "ytnngkaocblkgkaa", sum := "4a43dea8085eea6b20d3f84e23ac987c144e80608059c5b07c573bcfbed5e2d2", func := "loop.example/g00927/laws.FnExactRenameHands", spec := "fnExactRenameHands", apart := false }
def FnExactRenameHandsSaid : Prop := fnExactRenameHandsRow.holds Try.pinned (OpenSpec.ofChange fnExactRenameHandsSpec)

/-- ITS FALSE NEIGHBOUR: 'it returns false'. Refute it at one input. -/
def fnExactRenameHandsWrong : ChangeSpec := { name := "fnExactRenameHands", fn := fun _ => fun
  | [d1, d2] => { results := [.lit (.bool false)], args := [d1, d2] }
  | _ => none }
def FnExactRenameHandsWrongFalsely : Prop := fnExactRenameHandsRow.holds Try.pinned (OpenSpec.ofChange fnExactRenameHandsWrong)

/-- 'laws.FnExactOrbitOf': WHATEVER THE INPUT: true; the input reads as it did. -/
def fnExactOrbitOfSpec : ChangeSpec := { name := "fnExactOrbitOf", fn := fun _ => fun
  | [d1, d2] => { results := [.lit (.bool true)], args := [d1, d2] }
  | _ => none }
def fnExactOrbitOfRow : OpenClaim := { program := "ytnngkaocblkgkaa", sum := "4a43dea8085eea6b20d3f84e23ac987c144e80608059c5b07c573bcfbed5e2d2", func := "loop.example/g00927/laws.FnExactOrbitOf", spec := "fnExactOrbitOf", apart := false }
def FnExactOrbitOfSaid : Prop := fnExactOrbitOfRow.holds Try.pinned (OpenSpec.ofChange fnExactOrbitOfSpec)

/-- ITS FALSE NEIGHBOUR: 'it returns false'. Refute it at one input. -/
def fnExactOrbitOfWrong : ChangeSpec := { name := "fnExactOrbitOf", fn := fun _ => fun
  | [d1, d2] => { results := [.lit (.bool false)], args := [d1, d2] }
  | _ => none }
def FnExactOrbitOfWrongFalsely : Prop := fnExactOrbitOfRow.holds Try.pinned (OpenSpec.ofChange fnExactOrbitOfWrong)

/-- 'laws.FnExactPropAt': WHATEVER THE INPUT: true; the input reads as it did. -/
def fnExactPropAtSpec : ChangeSpec := { name := "fnExactPropAt", fn := fun _ => fun
  | [d1, d2] => { results := [.lit (.bool true)], args := [d1, d2] }
  | _ => none }
def fnExactPropAtRow : OpenClaim := { program := "ytnngkaocblkgkaa", sum := "4a43dea8085eea6b20d3f84e23ac987c144e80608059c5b07c573bcfbed5e2d2", func := "loop.example/g00927/laws.FnExactPropAt", spec := "fnExactPropAt", apart := false }
def FnExactPropAtSaid : Prop := fnExactPropAtRow.holds Try.pinned (OpenSpec.ofChange fnExactPropAtSpec)

/-- ITS FALSE NEIGHBOUR: 'it returns false'. Refute it at one input. -/
def fnExactPropAtWrong : ChangeSpec := { name := "fnExactPropAt", fn := fun _ => fun
  | [d1, d2] => { results := [.lit (.bool false)], args := [d1, d2] }
  | _ => none }
def FnExactPropAtWrongFalsely : Prop := fnExactPropAtRow.holds Try.pinned (OpenSpec.ofChange fnExactPropAtWrong)

/- THE SECOND FORM. 'bulk': how many values and letters a reading holds, each counted each time it is reached (what is shared counts as often as it is met; a slice's spare places count too). A statement '..UptoSaid' is the law's where the arguments, and the package variables that the reading takes, are together of bulk at most 1048576: NARROWER than '..Said'. Prove '..Said' where nothing that the law and all that it calls make is longer than what came in: it says more and counts as full. Else prove '..UptoSaid'. A law counts once. -/
mutual
def uptoBulk {H : Type} : DataW H → Nat
  | .lit (.string bytes) => bytes.length + 1
  | .lit _ => 1
  | .nil => 1
  | .ptr d => uptoBulk d + 1
  | .slice elems spare => uptoBulkAll elems + uptoBulkAll spare + 1
  | .agg parts => uptoBulkAll parts + 1
  | .iface _ d => uptoBulk d + 1
  | .map entries => uptoBulkEntries entries + 1
  | .held _ => 1
def uptoBulkAll {H : Type} : List (DataW H) → Nat
  | [] => 0
  | d :: r => uptoBulk d + uptoBulkAll r
def uptoBulkEntries {H : Type} : List (Lit × DataW H) → Nat
  | [] => 0
  | x :: r => uptoBulkEntry x + uptoBulkEntries r
def uptoBulkEntry {H : Type} : Lit × DataW H → Nat
  | (.string bytes, d) => bytes.length + uptoBulk d + 1
  | (_, d) => uptoBulk d + 1
 end
def uptoSmall : (H : Type) → List (DataW H) → Bool := fun _ ds => decide (uptoBulkAll ds ≤ 1048576)
def OpenSpec.upto (s : _root_.Go.ChangeSpec) : _root_.Go.OpenSpec := { _root_.Go.OpenSpec.ofChange s with cond := some uptoSmall }

/-- 'laws.FnExactStateAt', WHERE WHAT IT READS IS OF BULK AT MOST 1048576: true; the input reads as it did. -/
def fnExactStateAtUptoRow : OpenClaim := { program := "ytnngkaocblkgkaa", sum := "4a43dea8085eea6b20d3f84e23ac987c144e80608059c5b07c573bcfbed5e2d2", func := "loop.example/g00927/laws.FnExactStateAt", spec := "fnExactStateAt", apart := false, narrowed := true }
def FnExactStateAtUptoSaid : Prop := fnExactStateAtUptoRow.holds Try.pinned (OpenSpec.upto fnExactStateAtSpec)

/-- 'laws.FnExactValidHands', WHERE WHAT IT READS IS OF BULK AT MOST 1048576: true; the input reads as it did. -/
def fnExactValidHandsUptoRow : OpenClaim := { program := "ytnngkaocblkgkaa", sum := "4a43dea8085eea6b20d3f84e23ac987c144e80608059c5b07c573bcfbed5e2d2", func := "loop.example/g00927/laws.FnExactValidHands", spec := "fnExactValidHands", apart := false, narrowed := true }
def FnExactValidHandsUptoSaid : Prop := fnExactValidHandsUptoRow.holds Try.pinned (OpenSpec.upto fnExactValidHandsSpec)

/-- 'laws.FnExactStateIndex', WHERE WHAT IT READS IS OF BULK AT MOST 1048576: true; the input reads as it did. -/
def fnExactStateIndexUptoRow : OpenClaim := { program := "ytnngkaocblkgkaa", sum := "4a43dea8085eea6b20d3f84e23ac987c144e80608059c5b07c573bcfbed5e2d2", func := "loop.example/g00927/laws.FnExactStateIndex", spec := "fnExactStateIndex", apart := false, narrowed := true }
def FnExactStateIndexUptoSaid : Prop := fnExactStateIndexUptoRow.holds Try.pinned (OpenSpec.upto fnExactStateIndexSpec)

/-- 'laws.FnExactRunThrows', WHERE WHAT IT READS IS OF BULK AT MOST 1048576: true; the input reads as it did. -/
def fnExactRunThrowsUptoRow : OpenClaim := { program := "ytnngkaocblkgkaa", sum := "4a43dea8085eea6b20d3f84e23ac987c144e80608059c5b07c573bcfbed5e2d2", func := "loop.example/g00927/laws.FnExactRunThrows", spec := "fnExactRunThrows", apart := false, narrowed := true }
def FnExactRunThrowsUptoSaid : Prop := fnExactRunThrowsUptoRow.holds Try.pinned (OpenSpec.upto fnExactRunThrowsSpec)

/-- 'laws.FnExactHandAt', WHERE WHAT IT READS IS OF BULK AT MOST 1048576: true; the input reads as it did. -/
def fnExactHandAtUptoRow : OpenClaim := { program := "ytnngkaocblkgkaa", sum := "4a43dea8085eea6b20d3f84e23ac987c144e80608059c5b07c573bcfbed5e2d2", func := "loop.example/g00927/laws.FnExactHandAt", spec := "fnExactHandAt", apart := false, narrowed := true }
def FnExactHandAtUptoSaid : Prop := fnExactHandAtUptoRow.holds Try.pinned (OpenSpec.upto fnExactHandAtSpec)

/-- 'laws.FnExactHandsText', WHERE WHAT IT READS IS OF BULK AT MOST 1048576: true; the input reads as it did. -/
def fnExactHandsTextUptoRow : OpenClaim := { program := "ytnngkaocblkgkaa", sum := "4a43dea8085eea6b20d3f84e23ac987c144e80608059c5b07c573bcfbed5e2d2", func := "loop.example/g00927/laws.FnExactHandsText", spec := "fnExactHandsText", apart := false, narrowed := true }
def FnExactHandsTextUptoSaid : Prop := fnExactHandsTextUptoRow.holds Try.pinned (OpenSpec.upto fnExactHandsTextSpec)

/-- 'laws.FnExactAllStates', WHERE WHAT IT READS IS OF BULK AT MOST 1048576: true; the input reads as it did. -/
def fnExactAllStatesUptoRow : OpenClaim := { program := "ytnngkaocblkgkaa", sum := "4a43dea8085eea6b20d3f84e23ac987c144e80608059c5b07c573bcfbed5e2d2", func := "loop.example/g00927/laws.FnExactAllStates", spec := "fnExactAllStates", apart := false, narrowed := true }
def FnExactAllStatesUptoSaid : Prop := fnExactAllStatesUptoRow.holds Try.pinned (OpenSpec.upto fnExactAllStatesSpec)

/-- 'laws.FnExactReadHands', WHERE WHAT IT READS IS OF BULK AT MOST 1048576: true; the input reads as it did. -/
def fnExactReadHandsUptoRow : OpenClaim := { program := "ytnngkaocblkgkaa", sum := "4a43dea8085eea6b20d3f84e23ac987c144e80608059c5b07c573bcfbed5e2d2", func := "loop.example/g00927/laws.FnExactReadHands", spec := "fnExactReadHands", apart := false, narrowed := true }
def FnExactReadHandsUptoSaid : Prop := fnExactReadHandsUptoRow.holds Try.pinned (OpenSpec.upto fnExactReadHandsSpec)

/-- 'laws.FnCollisions', WHERE WHAT IT READS IS OF BULK AT MOST 1048576: true; the input reads as it did. -/
def fnCollisionsUptoRow : OpenClaim := { program := "ytnngkaocblkgkaa", sum := "4a43dea8085eea6b20d3f84e23ac987c144e80608059c5b07c573bcfbed5e2d2", func := "loop.example/g00927/laws.FnCollisions", spec := "fnCollisions", apart := false, narrowed := true }
def FnCollisionsUptoSaid : Prop := fnCollisionsUptoRow.holds Try.pinned (OpenSpec.upto fnCollisionsSpec)

/-- 'laws.FnExactRenameHands', WHERE WHAT IT READS IS OF BULK AT MOST 1048576: true; the input reads as it did. -/
def fnExactRenameHandsUptoRow : OpenClaim := { program := "ytnngkaocblkgkaa", sum := "4a43dea8085eea6b20d3f84e23ac987c144e80608059c5b07c573bcfbed5e2d2", func := "loop.example/g00927/laws.FnExactRenameHands", spec := "fnExactRenameHands", apart := false, narrowed := true }
def FnExactRenameHandsUptoSaid : Prop := fnExactRenameHandsUptoRow.holds Try.pinned (OpenSpec.upto fnExactRenameHandsSpec)

/-- 'laws.FnExactOrbitOf', WHERE WHAT IT READS IS OF BULK AT MOST 1048576: true; the input reads as it did. -/
def fnExactOrbitOfUptoRow : OpenClaim := { program := "ytnngkaocblkgkaa", sum := "4a43dea8085eea6b20d3f84e23ac987c144e80608059c5b07c573bcfbed5e2d2", func := "loop.example/g00927/laws.FnExactOrbitOf", spec := "fnExactOrbitOf", apart := false, narrowed := true }
def FnExactOrbitOfUptoSaid : Prop := fnExactOrbitOfUptoRow.holds Try.pinned (OpenSpec.upto fnExactOrbitOfSpec)

/-- 'laws.FnExactPropAt', WHERE WHAT IT READS IS OF BULK AT MOST 1048576: true; the input reads as it did. -/
def fnExactPropAtUptoRow : OpenClaim := { program := "ytnngkaocblkgkaa", sum := "4a43dea8085eea6b20d3f84e23ac987c144e80608059c5b07c573bcfbed5e2d2", func := "loop.example/g00927/laws.FnExactPropAt", spec := "fnExactPropAt", apart := false, narrowed := true }
def FnExactPropAtUptoSaid : Prop := fnExactPropAtUptoRow.holds Try.pinned (OpenSpec.upto fnExactPropAtSpec)

end Rows
end Go.Proofs.Ytnngkaocblkgkaa
