/-
  No cell of these rows narrows 'for every input' (looked for: loops, veiled, ifaces, maps, wideKeys, modest, calm, conditions, laid).
  DERIVED. THE GIVEN ROWS OF THIS SEAT. 12 by the template 'for every input the law returns true; each argument reads behind the call as it read before'; 0 by the template 'total and deterministic' (their statements: YthbbfhlpoinenaaTotals.lean).
  GIVEN WITH THE SEED: the statements are not yours to turn. If you find one false, say at which input.
  Laid BY PROGRAM, IN A SANDBOX (cutbox-rows.mjs): the forced cells as the released guide's own fill.sh prints them over the translation 786b985fbafa243a… (all of the seat's roots in one cut). By AI agents, Wed Nov 11 2026. No macro, syntax, notation, axiom, sorry.
-/
import Derived.Test.YthbbfhlpoinenaaChecked
import GoSem.Claim
import GoSem.ClaimJoined
import GoSem.ClaimMapViews
import Derived.JoinedTies
import Derived.KernelRfl
namespace Go.Proofs.Ythbbfhlpoinenaa
/- THE CELL 'sum', in the pinned program and in every row, IS THE sha256 OF THE DUMP (.gsa) THAT YthbbfhlpoinenaaProg.lean LOADS. Nothing in Lean hashes anything: it is a label: what it is worth is what the hold of that sum in a sandbox is worth. -/
noncomputable def Try.pinned : Pinned := { name := "ythbbfhlpoinenaa", sum := "786b985fbafa243a3d822014a258745dbbbcd6f8609759b6c4fa6e79ce85f6e2", checked := Try.checked }
namespace Rows
def none {H : Type} : Left H := { results := [], args := [] }

/-- 'laws.FnExactStateIndex': WHATEVER THE INPUT: true; the input reads as it did. -/
def fnExactStateIndexSpec : ChangeSpec := { name := "fnExactStateIndex", fn := fun _ => fun
  | [d] => { results := [.lit (.bool true)], args := [d] }
  | _ => none }
def fnExactStateIndexRow : OpenClaim := { program := "ythbbfhlpoinenaa", sum := "786b985fbafa243a3d822014a258745dbbbcd6f8609759b6c4fa6e79ce85f6e2", func := "loop.example/g00927/laws.FnExactStateIndex", spec := "fnExactStateIndex", apart := false }
def FnExactStateIndexSaid : Prop := fnExactStateIndexRow.holds Try.pinned (OpenSpec.ofChange fnExactStateIndexSpec)

/-- ITS FALSE NEIGHBOUR: 'it returns false'. Refute it at one input. -/
def fnExactStateIndexWrong : ChangeSpec := { name := "fnExactStateIndex", fn := fun _ => fun
  | [d] => { results := [.lit (.bool false)], args := [d] }
  | _ => none }
def FnExactStateIndexWrongFalsely : Prop := fnExactStateIndexRow.holds Try.pinned (OpenSpec.ofChange fnExactStateIndexWrong)

/-- 'laws.FnExactRenameHands': WHATEVER THE INPUT: true; the input reads as it did. -/
def fnExactRenameHandsSpec : ChangeSpec := { name := "fnExactRenameHands", fn := fun _ => fun
  | [d1, d2] => { results := [.lit (.bool true)], args := [d1, d2] }
  | _ => none }
def fnExactRenameHandsRow : OpenClaim := { program := "ythbbfhlpoinenaa", sum := "786b985fbafa243a3d822014a258745dbbbcd6f8609759b6c4fa6e79ce85f6e2", func := "loop.example/g00927/laws.FnExactRenameHands", spec := "fnExactRenameHands", apart := false }
def FnExactRenameHandsSaid : Prop := fnExactRenameHandsRow.holds Try.pinned (OpenSpec.ofChange fnExactRenameHandsSpec)

/-- ITS FALSE NEIGHBOUR: 'it returns false'. Refute it at one input. -/
def fnExactRenameHandsWrong : ChangeSpec := { name := "fnExactRenameHands", fn := fun _ => fun
  | [d1, d2] => { results := [.lit (.bool false)], args := [d1, d2] }
  | _ => none }
def FnExactRenameHandsWrongFalsely : Prop := fnExactRenameHandsRow.holds Try.pinned (OpenSpec.ofChange fnExactRenameHandsWrong)

/-- 'laws.FnExactOrbitOf': WHATEVER THE INPUT: true; the input reads as it did. -/
def fnExactOrbitOfSpec : ChangeSpec := { name := "fnExactOrbitOf", fn := fun _ => fun
  | [d1, d2] => { results := [.lit (.bool true)], args := [d1, d2] }
  | _ => none }
def fnExactOrbitOfRow : OpenClaim := { program := "ythbbfhlpoinenaa", sum := "786b985fbafa243a3d822014a258745dbbbcd6f8609759b6c4fa6e79ce85f6e2", func := "loop.example/g00927/laws.FnExactOrbitOf", spec := "fnExactOrbitOf", apart := false }
def FnExactOrbitOfSaid : Prop := fnExactOrbitOfRow.holds Try.pinned (OpenSpec.ofChange fnExactOrbitOfSpec)

/-- ITS FALSE NEIGHBOUR: 'it returns false'. Refute it at one input. -/
def fnExactOrbitOfWrong : ChangeSpec := { name := "fnExactOrbitOf", fn := fun _ => fun
  | [d1, d2] => { results := [.lit (.bool false)], args := [d1, d2] }
  | _ => none }
def FnExactOrbitOfWrongFalsely : Prop := fnExactOrbitOfRow.holds Try.pinned (OpenSpec.ofChange fnExactOrbitOfWrong)

/-- 'laws.FnExactOrbitPattern': WHATEVER THE INPUT: true; the input reads as it did. -/
def fnExactOrbitPatternSpec : ChangeSpec := { name := "fnExactOrbitPattern", fn := fun _ => fun
  | [d1, d2] => { results := [.lit (.bool true)], args := [d1, d2] }
  | _ => none }
def fnExactOrbitPatternRow : OpenClaim := { program := "ythbbfhlpoinenaa", sum := "786b985fbafa243a3d822014a258745dbbbcd6f8609759b6c4fa6e79ce85f6e2", func := "loop.example/g00927/laws.FnExactOrbitPattern", spec := "fnExactOrbitPattern", apart := false }
def FnExactOrbitPatternSaid : Prop := fnExactOrbitPatternRow.holds Try.pinned (OpenSpec.ofChange fnExactOrbitPatternSpec)

/-- ITS FALSE NEIGHBOUR: 'it returns false'. Refute it at one input. -/
def fnExactOrbitPatternWrong : ChangeSpec := { name := "fnExactOrbitPattern", fn := fun _ => fun
  | [d1, d2] => { results := [.lit (.bool false)], args := [d1, d2] }
  | _ => none }
def FnExactOrbitPatternWrongFalsely : Prop := fnExactOrbitPatternRow.holds Try.pinned (OpenSpec.ofChange fnExactOrbitPatternWrong)

/-- 'laws.FnExactOrbitProps': WHATEVER THE INPUT: true; the input reads as it did. -/
def fnExactOrbitPropsSpec : ChangeSpec := { name := "fnExactOrbitProps", fn := fun _ => fun
  | [d] => { results := [.lit (.bool true)], args := [d] }
  | _ => none }
def fnExactOrbitPropsRow : OpenClaim := { program := "ythbbfhlpoinenaa", sum := "786b985fbafa243a3d822014a258745dbbbcd6f8609759b6c4fa6e79ce85f6e2", func := "loop.example/g00927/laws.FnExactOrbitProps", spec := "fnExactOrbitProps", apart := false }
def FnExactOrbitPropsSaid : Prop := fnExactOrbitPropsRow.holds Try.pinned (OpenSpec.ofChange fnExactOrbitPropsSpec)

/-- ITS FALSE NEIGHBOUR: 'it returns false'. Refute it at one input. -/
def fnExactOrbitPropsWrong : ChangeSpec := { name := "fnExactOrbitProps", fn := fun _ => fun
  | [d] => { results := [.lit (.bool false)], args := [d] }
  | _ => none }
def FnExactOrbitPropsWrongFalsely : Prop := fnExactOrbitPropsRow.holds Try.pinned (OpenSpec.ofChange fnExactOrbitPropsWrong)

/-- 'laws.FnExactCanFollow': WHATEVER THE INPUT: true; the input reads as it did. -/
def fnExactCanFollowSpec : ChangeSpec := { name := "fnExactCanFollow", fn := fun _ => fun
  | [d1, d2] => { results := [.lit (.bool true)], args := [d1, d2] }
  | _ => none }
def fnExactCanFollowRow : OpenClaim := { program := "ythbbfhlpoinenaa", sum := "786b985fbafa243a3d822014a258745dbbbcd6f8609759b6c4fa6e79ce85f6e2", func := "loop.example/g00927/laws.FnExactCanFollow", spec := "fnExactCanFollow", apart := false }
def FnExactCanFollowSaid : Prop := fnExactCanFollowRow.holds Try.pinned (OpenSpec.ofChange fnExactCanFollowSpec)

/-- ITS FALSE NEIGHBOUR: 'it returns false'. Refute it at one input. -/
def fnExactCanFollowWrong : ChangeSpec := { name := "fnExactCanFollow", fn := fun _ => fun
  | [d1, d2] => { results := [.lit (.bool false)], args := [d1, d2] }
  | _ => none }
def FnExactCanFollowWrongFalsely : Prop := fnExactCanFollowRow.holds Try.pinned (OpenSpec.ofChange fnExactCanFollowWrong)

/-- 'laws.FnExactOrbitsOf': WHATEVER THE INPUT: true; the input reads as it did. -/
def fnExactOrbitsOfSpec : ChangeSpec := { name := "fnExactOrbitsOf", fn := fun _ => fun
  | [d] => { results := [.lit (.bool true)], args := [d] }
  | _ => none }
def fnExactOrbitsOfRow : OpenClaim := { program := "ythbbfhlpoinenaa", sum := "786b985fbafa243a3d822014a258745dbbbcd6f8609759b6c4fa6e79ce85f6e2", func := "loop.example/g00927/laws.FnExactOrbitsOf", spec := "fnExactOrbitsOf", apart := false }
def FnExactOrbitsOfSaid : Prop := fnExactOrbitsOfRow.holds Try.pinned (OpenSpec.ofChange fnExactOrbitsOfSpec)

/-- ITS FALSE NEIGHBOUR: 'it returns false'. Refute it at one input. -/
def fnExactOrbitsOfWrong : ChangeSpec := { name := "fnExactOrbitsOf", fn := fun _ => fun
  | [d] => { results := [.lit (.bool false)], args := [d] }
  | _ => none }
def FnExactOrbitsOfWrongFalsely : Prop := fnExactOrbitsOfRow.holds Try.pinned (OpenSpec.ofChange fnExactOrbitsOfWrong)

/-- 'laws.FnExactPropsInOrder': WHATEVER THE INPUT: true; the input reads as it did. -/
def fnExactPropsInOrderSpec : ChangeSpec := { name := "fnExactPropsInOrder", fn := fun _ => fun
  | [d1, d2] => { results := [.lit (.bool true)], args := [d1, d2] }
  | _ => none }
def fnExactPropsInOrderRow : OpenClaim := { program := "ythbbfhlpoinenaa", sum := "786b985fbafa243a3d822014a258745dbbbcd6f8609759b6c4fa6e79ce85f6e2", func := "loop.example/g00927/laws.FnExactPropsInOrder", spec := "fnExactPropsInOrder", apart := false }
def FnExactPropsInOrderSaid : Prop := fnExactPropsInOrderRow.holds Try.pinned (OpenSpec.ofChange fnExactPropsInOrderSpec)

/-- ITS FALSE NEIGHBOUR: 'it returns false'. Refute it at one input. -/
def fnExactPropsInOrderWrong : ChangeSpec := { name := "fnExactPropsInOrder", fn := fun _ => fun
  | [d1, d2] => { results := [.lit (.bool false)], args := [d1, d2] }
  | _ => none }
def FnExactPropsInOrderWrongFalsely : Prop := fnExactPropsInOrderRow.holds Try.pinned (OpenSpec.ofChange fnExactPropsInOrderWrong)

/-- 'laws.FnExactFullPeriod': WHATEVER THE INPUT: true; the input reads as it did. -/
def fnExactFullPeriodSpec : ChangeSpec := { name := "fnExactFullPeriod", fn := fun _ => fun
  | [d] => { results := [.lit (.bool true)], args := [d] }
  | _ => none }
def fnExactFullPeriodRow : OpenClaim := { program := "ythbbfhlpoinenaa", sum := "786b985fbafa243a3d822014a258745dbbbcd6f8609759b6c4fa6e79ce85f6e2", func := "loop.example/g00927/laws.FnExactFullPeriod", spec := "fnExactFullPeriod", apart := false }
def FnExactFullPeriodSaid : Prop := fnExactFullPeriodRow.holds Try.pinned (OpenSpec.ofChange fnExactFullPeriodSpec)

/-- ITS FALSE NEIGHBOUR: 'it returns false'. Refute it at one input. -/
def fnExactFullPeriodWrong : ChangeSpec := { name := "fnExactFullPeriod", fn := fun _ => fun
  | [d] => { results := [.lit (.bool false)], args := [d] }
  | _ => none }
def FnExactFullPeriodWrongFalsely : Prop := fnExactFullPeriodRow.holds Try.pinned (OpenSpec.ofChange fnExactFullPeriodWrong)

/-- 'laws.FnExactCommonPeriod': WHATEVER THE INPUT: true; the input reads as it did. -/
def fnExactCommonPeriodSpec : ChangeSpec := { name := "fnExactCommonPeriod", fn := fun _ => fun
  | [d1, d2] => { results := [.lit (.bool true)], args := [d1, d2] }
  | _ => none }
def fnExactCommonPeriodRow : OpenClaim := { program := "ythbbfhlpoinenaa", sum := "786b985fbafa243a3d822014a258745dbbbcd6f8609759b6c4fa6e79ce85f6e2", func := "loop.example/g00927/laws.FnExactCommonPeriod", spec := "fnExactCommonPeriod", apart := false }
def FnExactCommonPeriodSaid : Prop := fnExactCommonPeriodRow.holds Try.pinned (OpenSpec.ofChange fnExactCommonPeriodSpec)

/-- ITS FALSE NEIGHBOUR: 'it returns false'. Refute it at one input. -/
def fnExactCommonPeriodWrong : ChangeSpec := { name := "fnExactCommonPeriod", fn := fun _ => fun
  | [d1, d2] => { results := [.lit (.bool false)], args := [d1, d2] }
  | _ => none }
def FnExactCommonPeriodWrongFalsely : Prop := fnExactCommonPeriodRow.holds Try.pinned (OpenSpec.ofChange fnExactCommonPeriodWrong)

/-- 'laws.FnExactIsGround': WHATEVER THE INPUT: true; the input reads as it did. -/
def fnExactIsGroundSpec : ChangeSpec := { name := "fnExactIsGround", fn := fun _ => fun
  | [d] => { results := [.lit (.bool true)], args := [d] }
  | _ => none }
def fnExactIsGroundRow : OpenClaim := { program := "ythbbfhlpoinenaa", sum := "786b985fbafa243a3d822014a258745dbbbcd6f8609759b6c4fa6e79ce85f6e2", func := "loop.example/g00927/laws.FnExactIsGround", spec := "fnExactIsGround", apart := false }
def FnExactIsGroundSaid : Prop := fnExactIsGroundRow.holds Try.pinned (OpenSpec.ofChange fnExactIsGroundSpec)

/-- ITS FALSE NEIGHBOUR: 'it returns false'. Refute it at one input. -/
def fnExactIsGroundWrong : ChangeSpec := { name := "fnExactIsGround", fn := fun _ => fun
  | [d] => { results := [.lit (.bool false)], args := [d] }
  | _ => none }
def FnExactIsGroundWrongFalsely : Prop := fnExactIsGroundRow.holds Try.pinned (OpenSpec.ofChange fnExactIsGroundWrong)

/-- 'laws.FnExactStateOf': WHATEVER THE INPUT: true; the input reads as it did. -/
def fnExactStateOfSpec : ChangeSpec := { name := "fnExactStateOf", fn := fun _ => fun
  | [d1, d2, d3] => { results := [.lit (.bool true)], args := [d1, d2, d3] }
  | _ => none }
def fnExactStateOfRow : OpenClaim := { program := "ythbbfhlpoinenaa", sum := "786b985fbafa243a3d822014a258745dbbbcd6f8609759b6c4fa6e79ce85f6e2", func := "loop.example/g00927/laws.FnExactStateOf", spec := "fnExactStateOf", apart := false }
def FnExactStateOfSaid : Prop := fnExactStateOfRow.holds Try.pinned (OpenSpec.ofChange fnExactStateOfSpec)

/-- ITS FALSE NEIGHBOUR: 'it returns false'. Refute it at one input. -/
def fnExactStateOfWrong : ChangeSpec := { name := "fnExactStateOf", fn := fun _ => fun
  | [d1, d2, d3] => { results := [.lit (.bool false)], args := [d1, d2, d3] }
  | _ => none }
def FnExactStateOfWrongFalsely : Prop := fnExactStateOfRow.holds Try.pinned (OpenSpec.ofChange fnExactStateOfWrong)

/- THE SECOND FORM. 'bulk': how many values and letters a reading holds, each counted each time it is reached (what is shared counts as often as it is met; a slice's spare places count too). A statement '..UptoSaid' is the law's where the arguments, and the package variables that the reading takes, are together of bulk at most 1048576: NARROWER than '..Said'. Prove '..Said' where nothing that the law and all that it calls make is longer than what came in: it says more and counts as full. Else prove '..UptoSaid'. A law counts once. -/
mutual
def uptoBulk {H : Type} : DataW H → Nat
  | .lit (.string bytes) => bytes.length + 1
  | .lit _ => 1
  | .nil => 1
  | .ptr d => uptoBulk d + 1
  | .slice elems spare => uptoBulkAll elems + uptoBulkAll spare + 1
  | .agg parts => uptoBulkAll parts + 1
  | .iface _ d => uptoBulk d + 1
  | .map entries => uptoBulkEntries entries + 1
  | .held _ => 1
def uptoBulkAll {H : Type} : List (DataW H) → Nat
  | [] => 0
  | d :: r => uptoBulk d + uptoBulkAll r
def uptoBulkEntries {H : Type} : List (Lit × DataW H) → Nat
  | [] => 0
  | x :: r => uptoBulkEntry x + uptoBulkEntries r
def uptoBulkEntry {H : Type} : Lit × DataW H → Nat
  | (.string bytes, d) => bytes.length + uptoBulk d + 1
  | (_, d) => uptoBulk d + 1
 end
def uptoSmall : (H : Type) → List (DataW H) → Bool := fun _ ds => decide (uptoBulkAll ds ≤ 1048576)
def OpenSpec.upto (s : _root_.Go.ChangeSpec) : _root_.Go.OpenSpec := { _root_.Go.OpenSpec.ofChange s with cond := some uptoSmall }

/-- 'laws.FnExactStateIndex', WHERE WHAT IT READS IS OF BULK AT MOST 1048576: true; the input reads as it did. -/
def fnExactStateIndexUptoRow : OpenClaim := { program := "ythbbfhlpoinenaa", sum := "786b985fbafa243a3d822014a258745dbbbcd6f8609759b6c4fa6e79ce85f6e2", func := "loop.example/g00927/laws.FnExactStateIndex", spec := "fnExactStateIndex", apart := false, narrowed := true }
def FnExactStateIndexUptoSaid : Prop := fnExactStateIndexUptoRow.holds Try.pinned (OpenSpec.upto fnExactStateIndexSpec)

/-- 'laws.FnExactRenameHands', WHERE WHAT IT READS IS OF BULK AT MOST 1048576: true; the input reads as it did. -/
def fnExactRenameHandsUptoRow : OpenClaim := { program := "ythbbfhlpoinenaa", sum := "786b985fbafa243a3d822014a258745dbbbcd6f8609759b6c4fa6e79ce85f6e2", func := "loop.example/g00927/laws.FnExactRenameHands", spec := "fnExactRenameHands", apart := false, narrowed := true }
def FnExactRenameHandsUptoSaid : Prop := fnExactRenameHandsUptoRow.holds Try.pinned (OpenSpec.upto fnExactRenameHandsSpec)

/-- 'laws.FnExactOrbitOf', WHERE WHAT IT READS IS OF BULK AT MOST 1048576: true; the input reads as it did. -/
def fnExactOrbitOfUptoRow : OpenClaim := { program := "ythbbfhlpoinenaa", sum := "786b985fbafa243a3d822014a258745dbbbcd6f8609759b6c4fa6e79ce85f6e2", func := "loop.example/g00927/laws.FnExactOrbitOf", spec := "fnExactOrbitOf", apart := false, narrowed := true }
def FnExactOrbitOfUptoSaid : Prop := fnExactOrbitOfUptoRow.holds Try.pinned (OpenSpec.upto fnExactOrbitOfSpec)

/-- 'laws.FnExactOrbitPattern', WHERE WHAT IT READS IS OF BULK AT MOST 1048576: true; the input reads as it did. -/
def fnExactOrbitPatternUptoRow : OpenClaim := { program := "ythbbfhlpoinenaa", sum := "786b985fbafa243a3d822014a258745dbbbcd6f8609759b6c4fa6e79ce85f6e2", func := "loop.example/g00927/laws.FnExactOrbitPattern", spec := "fnExactOrbitPattern", apart := false, narrowed := true }
def FnExactOrbitPatternUptoSaid : Prop := fnExactOrbitPatternUptoRow.holds Try.pinned (OpenSpec.upto fnExactOrbitPatternSpec)

/-- 'laws.FnExactOrbitProps', WHERE WHAT IT READS IS OF BULK AT MOST 1048576: true; the input reads as it did. -/
def fnExactOrbitPropsUptoRow : OpenClaim := { program := "ythbbfhlpoinenaa", sum := "786b985fbafa243a3d822014a258745dbbbcd6f8609759b6c4fa6e79ce85f6e2", func := "loop.example/g00927/laws.FnExactOrbitProps", spec := "fnExactOrbitProps", apart := false, narrowed := true }
def FnExactOrbitPropsUptoSaid : Prop := fnExactOrbitPropsUptoRow.holds Try.pinned (OpenSpec.upto fnExactOrbitPropsSpec)

/-- 'laws.FnExactCanFollow', WHERE WHAT IT READS IS OF BULK AT MOST 1048576: true; the input reads as it did. -/
def fnExactCanFollowUptoRow : OpenClaim := { program := "ythbbfhlpoinenaa", sum := "786b985fbafa243a3d822014a258745dbbbcd6f8609759b6c4fa6e79ce85f6e2", func := "loop.example/g00927/laws.FnExactCanFollow", spec := "fnExactCanFollow", apart := false, narrowed := true }
def FnExactCanFollowUptoSaid : Prop := fnExactCanFollowUptoRow.holds Try.pinned (OpenSpec.upto fnExactCanFollowSpec)

/-- 'laws.FnExactOrbitsOf', WHERE WHAT IT READS IS OF BULK AT MOST 1048576: true; the input reads as it did. -/
def fnExactOrbitsOfUptoRow : OpenClaim := { program := "ythbbfhlpoinenaa", sum := "786b985fbafa243a3d822014a258745dbbbcd6f8609759b6c4fa6e79ce85f6e2", func := "loop.example/g00927/laws.FnExactOrbitsOf", spec := "fnExactOrbitsOf", apart := false, narrowed := true }
def FnExactOrbitsOfUptoSaid : Prop := fnExactOrbitsOfUptoRow.holds Try.pinned (OpenSpec.upto fnExactOrbitsOfSpec)

/-- 'laws.FnExactPropsInOrder', WHERE WHAT IT READS IS OF BULK AT MOST 1048576: true; the input reads as it did. -/
def fnExactPropsInOrderUptoRow : OpenClaim := { program := "ythbbfhlpoinenaa", sum := "786b985fbafa243a3d822014a258745dbbbcd6f8609759b6c4fa6e79ce85f6e2", func := "loop.example/g00927/laws.FnExactPropsInOrder", spec := "fnExactPropsInOrder", apart := false, narrowed := true }
def FnExactPropsInOrderUptoSaid : Prop := fnExactPropsInOrderUptoRow.holds Try.pinned (OpenSpec.upto fnExactPropsInOrderSpec)

/-- 'laws.FnExactFullPeriod', WHERE WHAT IT READS IS OF BULK AT MOST 1048576: true; the input reads as it did. -/
def fnExactFullPeriodUptoRow : OpenClaim := { program := "ythbbfhlpoinenaa", sum := "786b985fbafa243a3d822014a258745dbbbcd6f8609759b6c4fa6e79ce85f6e2", func := "loop.example/g00927/laws.FnExactFullPeriod", spec := "fnExactFullPeriod", apart := false, narrowed := true }
def FnExactFullPeriodUptoSaid : Prop := fnExactFullPeriodUptoRow.holds Try.pinned (OpenSpec.upto fnExactFullPeriodSpec)

/-- 'laws.FnExactCommonPeriod', WHERE WHAT IT READS IS OF BULK AT MOST 1048576: true; the input reads as it did. -/
def fnExactCommonPeriodUptoRow : OpenClaim := { program := "ythbbfhlpoinenaa", sum := "786b985fbafa243a3d822014a258745dbbbcd6f8609759b6c4fa6e79ce85f6e2", func := "loop.example/g00927/laws.FnExactCommonPeriod", spec := "fnExactCommonPeriod", apart := false, narrowed := true }
def FnExactCommonPeriodUptoSaid : Prop := fnExactCommonPeriodUptoRow.holds Try.pinned (OpenSpec.upto fnExactCommonPeriodSpec)

/-- 'laws.FnExactIsGround', WHERE WHAT IT READS IS OF BULK AT MOST 1048576: true; the input reads as it did. -/
def fnExactIsGroundUptoRow : OpenClaim := { program := "ythbbfhlpoinenaa", sum := "786b985fbafa243a3d822014a258745dbbbcd6f8609759b6c4fa6e79ce85f6e2", func := "loop.example/g00927/laws.FnExactIsGround", spec := "fnExactIsGround", apart := false, narrowed := true }
def FnExactIsGroundUptoSaid : Prop := fnExactIsGroundUptoRow.holds Try.pinned (OpenSpec.upto fnExactIsGroundSpec)

/-- 'laws.FnExactStateOf', WHERE WHAT IT READS IS OF BULK AT MOST 1048576: true; the input reads as it did. -/
def fnExactStateOfUptoRow : OpenClaim := { program := "ythbbfhlpoinenaa", sum := "786b985fbafa243a3d822014a258745dbbbcd6f8609759b6c4fa6e79ce85f6e2", func := "loop.example/g00927/laws.FnExactStateOf", spec := "fnExactStateOf", apart := false, narrowed := true }
def FnExactStateOfUptoSaid : Prop := fnExactStateOfUptoRow.holds Try.pinned (OpenSpec.upto fnExactStateOfSpec)

end Rows
end Go.Proofs.Ythbbfhlpoinenaa
