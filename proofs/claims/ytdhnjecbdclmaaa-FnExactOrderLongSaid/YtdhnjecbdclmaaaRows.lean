/-
  No cell of these rows narrows 'for every input' (looked for: loops, veiled, ifaces, maps, wideKeys, modest, calm, conditions, laid).
  DERIVED. THE GIVEN ROWS OF THIS SEAT. 20 by the template 'for every input the law returns true; each argument reads behind the call as it read before'; 0 by the template 'total and deterministic' (their statements: YtdhnjecbdclmaaaTotals.lean).
  GIVEN WITH THE SEED: the statements are not yours to turn. If you find one false, say at which input.
  Laid BY PROGRAM, IN A SANDBOX (cutbox-rows.mjs): the forced cells as the released guide's own fill.sh prints them over the translation 7e469b93b6037a3f… (all of the seat's roots in one cut). By AI agents, Wed Nov 11 2026. No macro, syntax, notation, axiom, sorry.
-/
import Derived.Test.YtdhnjecbdclmaaaChecked
import GoSem.Claim
import GoSem.ClaimJoined
import GoSem.ClaimMapViews
import Derived.JoinedTies
import Derived.KernelRfl
namespace Go.Proofs.Ytdhnjecbdclmaaa
/- THE CELL 'sum', in the pinned program and in every row, IS THE sha256 OF THE DUMP (.gsa) THAT YtdhnjecbdclmaaaProg.lean LOADS. Nothing in Lean hashes anything: it is a label: what it is worth is what the hold of that sum in a sandbox is worth. -/
noncomputable def Try.pinned : Pinned := { name := "ytdhnjecbdclmaaa", sum := "7e469b93b6037a3f93585a1f2bde27ba74dc39a5371abb53329ecf3ef2dc4733", checked := Try.checked }
namespace Rows
def none {H : Type} : Left H := { results := [], args := [] }

/-- 'laws.FnExactWallPlain': WHATEVER THE INPUT: true; the input reads as it did. -/
def fnExactWallPlainSpec : ChangeSpec := { name := "fnExactWallPlain", fn := fun _ => fun
  | [d] => { results := [.lit (.bool true)], args := [d] }
  | _ => none }
def fnExactWallPlainRow : OpenClaim := { program := "ytdhnjecbdclmaaa", sum := "7e469b93b6037a3f93585a1f2bde27ba74dc39a5371abb53329ecf3ef2dc4733", func := "loop.example/floorrooms/laws.FnExactWallPlain", spec := "fnExactWallPlain", inPlace := ["internal/abi.NoEscape"], unfollowed := true, recurses := true, apart := false }
def FnExactWallPlainSaid : Prop := fnExactWallPlainRow.holds Try.pinned (OpenSpec.ofChange fnExactWallPlainSpec)

/-- ITS FALSE NEIGHBOUR: 'it returns false'. Refute it at one input. -/
def fnExactWallPlainWrong : ChangeSpec := { name := "fnExactWallPlain", fn := fun _ => fun
  | [d] => { results := [.lit (.bool false)], args := [d] }
  | _ => none }
def FnExactWallPlainWrongFalsely : Prop := fnExactWallPlainRow.holds Try.pinned (OpenSpec.ofChange fnExactWallPlainWrong)

/-- 'laws.FnExactWallCross': WHATEVER THE INPUT: true; the input reads as it did. -/
def fnExactWallCrossSpec : ChangeSpec := { name := "fnExactWallCross", fn := fun _ => fun
  | [d] => { results := [.lit (.bool true)], args := [d] }
  | _ => none }
def fnExactWallCrossRow : OpenClaim := { program := "ytdhnjecbdclmaaa", sum := "7e469b93b6037a3f93585a1f2bde27ba74dc39a5371abb53329ecf3ef2dc4733", func := "loop.example/floorrooms/laws.FnExactWallCross", spec := "fnExactWallCross", inPlace := ["internal/abi.NoEscape"], unfollowed := true, recurses := true, apart := false }
def FnExactWallCrossSaid : Prop := fnExactWallCrossRow.holds Try.pinned (OpenSpec.ofChange fnExactWallCrossSpec)

/-- ITS FALSE NEIGHBOUR: 'it returns false'. Refute it at one input. -/
def fnExactWallCrossWrong : ChangeSpec := { name := "fnExactWallCross", fn := fun _ => fun
  | [d] => { results := [.lit (.bool false)], args := [d] }
  | _ => none }
def FnExactWallCrossWrongFalsely : Prop := fnExactWallCrossRow.holds Try.pinned (OpenSpec.ofChange fnExactWallCrossWrong)

/-- 'laws.FnExactWallTees': WHATEVER THE INPUT: true; the input reads as it did. -/
def fnExactWallTeesSpec : ChangeSpec := { name := "fnExactWallTees", fn := fun _ => fun
  | [d] => { results := [.lit (.bool true)], args := [d] }
  | _ => none }
def fnExactWallTeesRow : OpenClaim := { program := "ytdhnjecbdclmaaa", sum := "7e469b93b6037a3f93585a1f2bde27ba74dc39a5371abb53329ecf3ef2dc4733", func := "loop.example/floorrooms/laws.FnExactWallTees", spec := "fnExactWallTees", inPlace := ["internal/abi.NoEscape"], unfollowed := true, recurses := true, apart := false }
def FnExactWallTeesSaid : Prop := fnExactWallTeesRow.holds Try.pinned (OpenSpec.ofChange fnExactWallTeesSpec)

/-- ITS FALSE NEIGHBOUR: 'it returns false'. Refute it at one input. -/
def fnExactWallTeesWrong : ChangeSpec := { name := "fnExactWallTees", fn := fun _ => fun
  | [d] => { results := [.lit (.bool false)], args := [d] }
  | _ => none }
def FnExactWallTeesWrongFalsely : Prop := fnExactWallTeesRow.holds Try.pinned (OpenSpec.ofChange fnExactWallTeesWrong)

/-- 'laws.FnProofCut': WHATEVER THE INPUT: true; the input reads as it did. -/
def fnProofCutSpec : ChangeSpec := { name := "fnProofCut", fn := fun _ => fun
  | [d] => { results := [.lit (.bool true)], args := [d] }
  | _ => none }
def fnProofCutRow : OpenClaim := { program := "ytdhnjecbdclmaaa", sum := "7e469b93b6037a3f93585a1f2bde27ba74dc39a5371abb53329ecf3ef2dc4733", func := "loop.example/floorrooms/laws.FnProofCut", spec := "fnProofCut", inPlace := ["internal/abi.NoEscape"], unfollowed := true, recurses := true, apart := false }
def FnProofCutSaid : Prop := fnProofCutRow.holds Try.pinned (OpenSpec.ofChange fnProofCutSpec)

/-- ITS FALSE NEIGHBOUR: 'it returns false'. Refute it at one input. -/
def fnProofCutWrong : ChangeSpec := { name := "fnProofCut", fn := fun _ => fun
  | [d] => { results := [.lit (.bool false)], args := [d] }
  | _ => none }
def FnProofCutWrongFalsely : Prop := fnProofCutRow.holds Try.pinned (OpenSpec.ofChange fnProofCutWrong)

/-- 'laws.FnCutProofIs': WHATEVER THE INPUT: true; the input reads as it did. -/
def fnCutProofIsSpec : ChangeSpec := { name := "fnCutProofIs", fn := fun _ => fun
  | [d] => { results := [.lit (.bool true)], args := [d] }
  | _ => none }
def fnCutProofIsRow : OpenClaim := { program := "ytdhnjecbdclmaaa", sum := "7e469b93b6037a3f93585a1f2bde27ba74dc39a5371abb53329ecf3ef2dc4733", func := "loop.example/floorrooms/laws.FnCutProofIs", spec := "fnCutProofIs", inPlace := ["internal/abi.NoEscape"], unfollowed := true, recurses := true, apart := false }
def FnCutProofIsSaid : Prop := fnCutProofIsRow.holds Try.pinned (OpenSpec.ofChange fnCutProofIsSpec)

/-- ITS FALSE NEIGHBOUR: 'it returns false'. Refute it at one input. -/
def fnCutProofIsWrong : ChangeSpec := { name := "fnCutProofIs", fn := fun _ => fun
  | [d] => { results := [.lit (.bool false)], args := [d] }
  | _ => none }
def FnCutProofIsWrongFalsely : Prop := fnCutProofIsRow.holds Try.pinned (OpenSpec.ofChange fnCutProofIsWrong)

/-- 'laws.FnCutStuck': WHATEVER THE INPUT: true; the input reads as it did. -/
def fnCutStuckSpec : ChangeSpec := { name := "fnCutStuck", fn := fun _ => fun
  | [d] => { results := [.lit (.bool true)], args := [d] }
  | _ => none }
def fnCutStuckRow : OpenClaim := { program := "ytdhnjecbdclmaaa", sum := "7e469b93b6037a3f93585a1f2bde27ba74dc39a5371abb53329ecf3ef2dc4733", func := "loop.example/floorrooms/laws.FnCutStuck", spec := "fnCutStuck", inPlace := ["internal/abi.NoEscape"], unfollowed := true, recurses := true, apart := false }
def FnCutStuckSaid : Prop := fnCutStuckRow.holds Try.pinned (OpenSpec.ofChange fnCutStuckSpec)

/-- ITS FALSE NEIGHBOUR: 'it returns false'. Refute it at one input. -/
def fnCutStuckWrong : ChangeSpec := { name := "fnCutStuck", fn := fun _ => fun
  | [d] => { results := [.lit (.bool false)], args := [d] }
  | _ => none }
def FnCutStuckWrongFalsely : Prop := fnCutStuckRow.holds Try.pinned (OpenSpec.ofChange fnCutStuckWrong)

/-- 'laws.FnCutDeep': WHATEVER THE INPUT: true; the input reads as it did. -/
def fnCutDeepSpec : ChangeSpec := { name := "fnCutDeep", fn := fun _ => fun
  | [d] => { results := [.lit (.bool true)], args := [d] }
  | _ => none }
def fnCutDeepRow : OpenClaim := { program := "ytdhnjecbdclmaaa", sum := "7e469b93b6037a3f93585a1f2bde27ba74dc39a5371abb53329ecf3ef2dc4733", func := "loop.example/floorrooms/laws.FnCutDeep", spec := "fnCutDeep", inPlace := ["internal/abi.NoEscape"], unfollowed := true, recurses := true, apart := false }
def FnCutDeepSaid : Prop := fnCutDeepRow.holds Try.pinned (OpenSpec.ofChange fnCutDeepSpec)

/-- ITS FALSE NEIGHBOUR: 'it returns false'. Refute it at one input. -/
def fnCutDeepWrong : ChangeSpec := { name := "fnCutDeep", fn := fun _ => fun
  | [d] => { results := [.lit (.bool false)], args := [d] }
  | _ => none }
def FnCutDeepWrongFalsely : Prop := fnCutDeepRow.holds Try.pinned (OpenSpec.ofChange fnCutDeepWrong)

/-- 'laws.FnCutIs': WHATEVER THE INPUT: true; the input reads as it did. -/
def fnCutIsSpec : ChangeSpec := { name := "fnCutIs", fn := fun _ => fun
  | [d] => { results := [.lit (.bool true)], args := [d] }
  | _ => none }
def fnCutIsRow : OpenClaim := { program := "ytdhnjecbdclmaaa", sum := "7e469b93b6037a3f93585a1f2bde27ba74dc39a5371abb53329ecf3ef2dc4733", func := "loop.example/floorrooms/laws.FnCutIs", spec := "fnCutIs", inPlace := ["internal/abi.NoEscape"], unfollowed := true, recurses := true, apart := false }
def FnCutIsSaid : Prop := fnCutIsRow.holds Try.pinned (OpenSpec.ofChange fnCutIsSpec)

/-- ITS FALSE NEIGHBOUR: 'it returns false'. Refute it at one input. -/
def fnCutIsWrong : ChangeSpec := { name := "fnCutIs", fn := fun _ => fun
  | [d] => { results := [.lit (.bool false)], args := [d] }
  | _ => none }
def FnCutIsWrongFalsely : Prop := fnCutIsRow.holds Try.pinned (OpenSpec.ofChange fnCutIsWrong)

/-- 'laws.FnCross': WHATEVER THE INPUT: true; the input reads as it did. -/
def fnCrossSpec : ChangeSpec := { name := "fnCross", fn := fun _ => fun
  | [d] => { results := [.lit (.bool true)], args := [d] }
  | _ => none }
def fnCrossRow : OpenClaim := { program := "ytdhnjecbdclmaaa", sum := "7e469b93b6037a3f93585a1f2bde27ba74dc39a5371abb53329ecf3ef2dc4733", func := "loop.example/floorrooms/laws.FnCross", spec := "fnCross", inPlace := ["internal/abi.NoEscape"], unfollowed := true, recurses := true, apart := false }
def FnCrossSaid : Prop := fnCrossRow.holds Try.pinned (OpenSpec.ofChange fnCrossSpec)

/-- ITS FALSE NEIGHBOUR: 'it returns false'. Refute it at one input. -/
def fnCrossWrong : ChangeSpec := { name := "fnCross", fn := fun _ => fun
  | [d] => { results := [.lit (.bool false)], args := [d] }
  | _ => none }
def FnCrossWrongFalsely : Prop := fnCrossRow.holds Try.pinned (OpenSpec.ofChange fnCrossWrong)

/-- 'laws.FnExactOrderLeft': WHATEVER THE INPUT: true; the input reads as it did. -/
def fnExactOrderLeftSpec : ChangeSpec := { name := "fnExactOrderLeft", fn := fun _ => fun
  | [d1, d2, d3] => { results := [.lit (.bool true)], args := [d1, d2, d3] }
  | _ => none }
def fnExactOrderLeftRow : OpenClaim := { program := "ytdhnjecbdclmaaa", sum := "7e469b93b6037a3f93585a1f2bde27ba74dc39a5371abb53329ecf3ef2dc4733", func := "loop.example/floorrooms/laws.FnExactOrderLeft", spec := "fnExactOrderLeft", inPlace := ["internal/abi.NoEscape"], unfollowed := true, recurses := true, apart := false }
def FnExactOrderLeftSaid : Prop := fnExactOrderLeftRow.holds Try.pinned (OpenSpec.ofChange fnExactOrderLeftSpec)

/-- ITS FALSE NEIGHBOUR: 'it returns false'. Refute it at one input. -/
def fnExactOrderLeftWrong : ChangeSpec := { name := "fnExactOrderLeft", fn := fun _ => fun
  | [d1, d2, d3] => { results := [.lit (.bool false)], args := [d1, d2, d3] }
  | _ => none }
def FnExactOrderLeftWrongFalsely : Prop := fnExactOrderLeftRow.holds Try.pinned (OpenSpec.ofChange fnExactOrderLeftWrong)

/-- 'laws.FnExactOrderAbove': WHATEVER THE INPUT: true; the input reads as it did. -/
def fnExactOrderAboveSpec : ChangeSpec := { name := "fnExactOrderAbove", fn := fun _ => fun
  | [d1, d2, d3] => { results := [.lit (.bool true)], args := [d1, d2, d3] }
  | _ => none }
def fnExactOrderAboveRow : OpenClaim := { program := "ytdhnjecbdclmaaa", sum := "7e469b93b6037a3f93585a1f2bde27ba74dc39a5371abb53329ecf3ef2dc4733", func := "loop.example/floorrooms/laws.FnExactOrderAbove", spec := "fnExactOrderAbove", inPlace := ["internal/abi.NoEscape"], unfollowed := true, recurses := true, apart := false }
def FnExactOrderAboveSaid : Prop := fnExactOrderAboveRow.holds Try.pinned (OpenSpec.ofChange fnExactOrderAboveSpec)

/-- ITS FALSE NEIGHBOUR: 'it returns false'. Refute it at one input. -/
def fnExactOrderAboveWrong : ChangeSpec := { name := "fnExactOrderAbove", fn := fun _ => fun
  | [d1, d2, d3] => { results := [.lit (.bool false)], args := [d1, d2, d3] }
  | _ => none }
def FnExactOrderAboveWrongFalsely : Prop := fnExactOrderAboveRow.holds Try.pinned (OpenSpec.ofChange fnExactOrderAboveWrong)

/-- 'laws.FnExactOrderKind': WHATEVER THE INPUT: true; the input reads as it did. -/
def fnExactOrderKindSpec : ChangeSpec := { name := "fnExactOrderKind", fn := fun _ => fun
  | [d1, d2, d3] => { results := [.lit (.bool true)], args := [d1, d2, d3] }
  | _ => none }
def fnExactOrderKindRow : OpenClaim := { program := "ytdhnjecbdclmaaa", sum := "7e469b93b6037a3f93585a1f2bde27ba74dc39a5371abb53329ecf3ef2dc4733", func := "loop.example/floorrooms/laws.FnExactOrderKind", spec := "fnExactOrderKind", inPlace := ["internal/abi.NoEscape"], unfollowed := true, recurses := true, apart := false }
def FnExactOrderKindSaid : Prop := fnExactOrderKindRow.holds Try.pinned (OpenSpec.ofChange fnExactOrderKindSpec)

/-- ITS FALSE NEIGHBOUR: 'it returns false'. Refute it at one input. -/
def fnExactOrderKindWrong : ChangeSpec := { name := "fnExactOrderKind", fn := fun _ => fun
  | [d1, d2, d3] => { results := [.lit (.bool false)], args := [d1, d2, d3] }
  | _ => none }
def FnExactOrderKindWrongFalsely : Prop := fnExactOrderKindRow.holds Try.pinned (OpenSpec.ofChange fnExactOrderKindWrong)

/-- 'laws.FnExactOrderLong': WHATEVER THE INPUT: true; the input reads as it did. -/
def fnExactOrderLongSpec : ChangeSpec := { name := "fnExactOrderLong", fn := fun _ => fun
  | [d] => { results := [.lit (.bool true)], args := [d] }
  | _ => none }
def fnExactOrderLongRow : OpenClaim := { program := "ytdhnjecbdclmaaa", sum := "7e469b93b6037a3f93585a1f2bde27ba74dc39a5371abb53329ecf3ef2dc4733", func := "loop.example/floorrooms/laws.FnExactOrderLong", spec := "fnExactOrderLong", inPlace := ["internal/abi.NoEscape"], unfollowed := true, recurses := true, apart := false }
def FnExactOrderLongSaid : Prop := fnExactOrderLongRow.holds Try.pinned (OpenSpec.ofChange fnExactOrderLongSpec)

/-- ITS FALSE NEIGHBOUR: 'it returns false'. Refute it at one input. -/
def fnExactOrderLongWrong : ChangeSpec := { name := "fnExactOrderLong", fn := fun _ => fun
  | [d] => { results := [.lit (.bool false)], args := [d] }
  | _ => none }
def FnExactOrderLongWrongFalsely : Prop := fnExactOrderLongRow.holds Try.pinned (OpenSpec.ofChange fnExactOrderLongWrong)

/-- 'laws.FnExactSizeCut': WHATEVER THE INPUT: true; the input reads as it did. -/
def fnExactSizeCutSpec : ChangeSpec := { name := "fnExactSizeCut", fn := fun _ => fun
  | [d1, d2] => { results := [.lit (.bool true)], args := [d1, d2] }
  | _ => none }
def fnExactSizeCutRow : OpenClaim := { program := "ytdhnjecbdclmaaa", sum := "7e469b93b6037a3f93585a1f2bde27ba74dc39a5371abb53329ecf3ef2dc4733", func := "loop.example/floorrooms/laws.FnExactSizeCut", spec := "fnExactSizeCut", inPlace := ["internal/abi.NoEscape"], unfollowed := true, recurses := true, apart := false }
def FnExactSizeCutSaid : Prop := fnExactSizeCutRow.holds Try.pinned (OpenSpec.ofChange fnExactSizeCutSpec)

/-- ITS FALSE NEIGHBOUR: 'it returns false'. Refute it at one input. -/
def fnExactSizeCutWrong : ChangeSpec := { name := "fnExactSizeCut", fn := fun _ => fun
  | [d1, d2] => { results := [.lit (.bool false)], args := [d1, d2] }
  | _ => none }
def FnExactSizeCutWrongFalsely : Prop := fnExactSizeCutRow.holds Try.pinned (OpenSpec.ofChange fnExactSizeCutWrong)

/-- 'laws.FnExactSizeHigh': WHATEVER THE INPUT: true; the input reads as it did. -/
def fnExactSizeHighSpec : ChangeSpec := { name := "fnExactSizeHigh", fn := fun _ => fun
  | [d1, d2] => { results := [.lit (.bool true)], args := [d1, d2] }
  | _ => none }
def fnExactSizeHighRow : OpenClaim := { program := "ytdhnjecbdclmaaa", sum := "7e469b93b6037a3f93585a1f2bde27ba74dc39a5371abb53329ecf3ef2dc4733", func := "loop.example/floorrooms/laws.FnExactSizeHigh", spec := "fnExactSizeHigh", inPlace := ["internal/abi.NoEscape"], unfollowed := true, recurses := true, apart := false }
def FnExactSizeHighSaid : Prop := fnExactSizeHighRow.holds Try.pinned (OpenSpec.ofChange fnExactSizeHighSpec)

/-- ITS FALSE NEIGHBOUR: 'it returns false'. Refute it at one input. -/
def fnExactSizeHighWrong : ChangeSpec := { name := "fnExactSizeHigh", fn := fun _ => fun
  | [d1, d2] => { results := [.lit (.bool false)], args := [d1, d2] }
  | _ => none }
def FnExactSizeHighWrongFalsely : Prop := fnExactSizeHighRow.holds Try.pinned (OpenSpec.ofChange fnExactSizeHighWrong)

/-- 'laws.FnExactSizeWide': WHATEVER THE INPUT: true; the input reads as it did. -/
def fnExactSizeWideSpec : ChangeSpec := { name := "fnExactSizeWide", fn := fun _ => fun
  | [d1, d2] => { results := [.lit (.bool true)], args := [d1, d2] }
  | _ => none }
def fnExactSizeWideRow : OpenClaim := { program := "ytdhnjecbdclmaaa", sum := "7e469b93b6037a3f93585a1f2bde27ba74dc39a5371abb53329ecf3ef2dc4733", func := "loop.example/floorrooms/laws.FnExactSizeWide", spec := "fnExactSizeWide", inPlace := ["internal/abi.NoEscape"], unfollowed := true, recurses := true, apart := false }
def FnExactSizeWideSaid : Prop := fnExactSizeWideRow.holds Try.pinned (OpenSpec.ofChange fnExactSizeWideSpec)

/-- ITS FALSE NEIGHBOUR: 'it returns false'. Refute it at one input. -/
def fnExactSizeWideWrong : ChangeSpec := { name := "fnExactSizeWide", fn := fun _ => fun
  | [d1, d2] => { results := [.lit (.bool false)], args := [d1, d2] }
  | _ => none }
def FnExactSizeWideWrongFalsely : Prop := fnExactSizeWideRow.holds Try.pinned (OpenSpec.ofChange fnExactSizeWideWrong)

/-- 'laws.FnTees': WHATEVER THE INPUT: true; the input reads as it did. -/
def fnTeesSpec : ChangeSpec := { name := "fnTees", fn := fun _ => fun
  | [d] => { results := [.lit (.bool true)], args := [d] }
  | _ => none }
def fnTeesRow : OpenClaim := { program := "ytdhnjecbdclmaaa", sum := "7e469b93b6037a3f93585a1f2bde27ba74dc39a5371abb53329ecf3ef2dc4733", func := "loop.example/floorrooms/laws.FnTees", spec := "fnTees", inPlace := ["internal/abi.NoEscape"], unfollowed := true, recurses := true, apart := false }
def FnTeesSaid : Prop := fnTeesRow.holds Try.pinned (OpenSpec.ofChange fnTeesSpec)

/-- ITS FALSE NEIGHBOUR: 'it returns false'. Refute it at one input. -/
def fnTeesWrong : ChangeSpec := { name := "fnTees", fn := fun _ => fun
  | [d] => { results := [.lit (.bool false)], args := [d] }
  | _ => none }
def FnTeesWrongFalsely : Prop := fnTeesRow.holds Try.pinned (OpenSpec.ofChange fnTeesWrong)

/-- 'laws.FnWalls': WHATEVER THE INPUT: true; the input reads as it did. -/
def fnWallsSpec : ChangeSpec := { name := "fnWalls", fn := fun _ => fun
  | [d] => { results := [.lit (.bool true)], args := [d] }
  | _ => none }
def fnWallsRow : OpenClaim := { program := "ytdhnjecbdclmaaa", sum := "7e469b93b6037a3f93585a1f2bde27ba74dc39a5371abb53329ecf3ef2dc4733", func := "loop.example/floorrooms/laws.FnWalls", spec := "fnWalls", inPlace := ["internal/abi.NoEscape"], unfollowed := true, recurses := true, apart := false }
def FnWallsSaid : Prop := fnWallsRow.holds Try.pinned (OpenSpec.ofChange fnWallsSpec)

/-- ITS FALSE NEIGHBOUR: 'it returns false'. Refute it at one input. -/
def fnWallsWrong : ChangeSpec := { name := "fnWalls", fn := fun _ => fun
  | [d] => { results := [.lit (.bool false)], args := [d] }
  | _ => none }
def FnWallsWrongFalsely : Prop := fnWallsRow.holds Try.pinned (OpenSpec.ofChange fnWallsWrong)

/-- 'laws.FnPlain': WHATEVER THE INPUT: true; the input reads as it did. -/
def fnPlainSpec : ChangeSpec := { name := "fnPlain", fn := fun _ => fun
  | [d] => { results := [.lit (.bool true)], args := [d] }
  | _ => none }
def fnPlainRow : OpenClaim := { program := "ytdhnjecbdclmaaa", sum := "7e469b93b6037a3f93585a1f2bde27ba74dc39a5371abb53329ecf3ef2dc4733", func := "loop.example/floorrooms/laws.FnPlain", spec := "fnPlain", inPlace := ["internal/abi.NoEscape"], unfollowed := true, recurses := true, apart := false }
def FnPlainSaid : Prop := fnPlainRow.holds Try.pinned (OpenSpec.ofChange fnPlainSpec)

/-- ITS FALSE NEIGHBOUR: 'it returns false'. Refute it at one input. -/
def fnPlainWrong : ChangeSpec := { name := "fnPlain", fn := fun _ => fun
  | [d] => { results := [.lit (.bool false)], args := [d] }
  | _ => none }
def FnPlainWrongFalsely : Prop := fnPlainRow.holds Try.pinned (OpenSpec.ofChange fnPlainWrong)

/-- 'laws.FnCutWays': WHATEVER THE INPUT: true; the input reads as it did. -/
def fnCutWaysSpec : ChangeSpec := { name := "fnCutWays", fn := fun _ => fun
  | [d] => { results := [.lit (.bool true)], args := [d] }
  | _ => none }
def fnCutWaysRow : OpenClaim := { program := "ytdhnjecbdclmaaa", sum := "7e469b93b6037a3f93585a1f2bde27ba74dc39a5371abb53329ecf3ef2dc4733", func := "loop.example/floorrooms/laws.FnCutWays", spec := "fnCutWays", inPlace := ["internal/abi.NoEscape"], unfollowed := true, recurses := true, apart := false }
def FnCutWaysSaid : Prop := fnCutWaysRow.holds Try.pinned (OpenSpec.ofChange fnCutWaysSpec)

/-- ITS FALSE NEIGHBOUR: 'it returns false'. Refute it at one input. -/
def fnCutWaysWrong : ChangeSpec := { name := "fnCutWays", fn := fun _ => fun
  | [d] => { results := [.lit (.bool false)], args := [d] }
  | _ => none }
def FnCutWaysWrongFalsely : Prop := fnCutWaysRow.holds Try.pinned (OpenSpec.ofChange fnCutWaysWrong)

/- THE SECOND FORM. 'bulk': how many values and letters a reading holds, each counted each time it is reached (what is shared counts as often as it is met; a slice's spare places count too). A statement '..UptoSaid' is the law's where the arguments, and the package variables that the reading takes, are together of bulk at most 1048576: NARROWER than '..Said'. Prove '..Said' where nothing that the law and all that it calls make is longer than what came in: it says more and counts as full. Else prove '..UptoSaid'. A law counts once. -/
mutual
def uptoBulk {H : Type} : DataW H → Nat
  | .lit (.string bytes) => bytes.length + 1
  | .lit _ => 1
  | .nil => 1
  | .ptr d => uptoBulk d + 1
  | .slice elems spare => uptoBulkAll elems + uptoBulkAll spare + 1
  | .agg parts => uptoBulkAll parts + 1
  | .iface _ d => uptoBulk d + 1
  | .map entries => uptoBulkEntries entries + 1
  | .held _ => 1
def uptoBulkAll {H : Type} : List (DataW H) → Nat
  | [] => 0
  | d :: r => uptoBulk d + uptoBulkAll r
def uptoBulkEntries {H : Type} : List (Lit × DataW H) → Nat
  | [] => 0
  | x :: r => uptoBulkEntry x + uptoBulkEntries r
def uptoBulkEntry {H : Type} : Lit × DataW H → Nat
  | (.string bytes, d) => bytes.length + uptoBulk d + 1
  | (_, d) => uptoBulk d + 1
 end
def uptoSmall : (H : Type) → List (DataW H) → Bool := fun _ ds => decide (uptoBulkAll ds ≤ 1048576)
def OpenSpec.upto (s : _root_.Go.ChangeSpec) : _root_.Go.OpenSpec := { _root_.Go.OpenSpec.ofChange s with cond := some uptoSmall }

/-- 'laws.FnExactWallPlain', WHERE WHAT IT READS IS OF BULK AT MOST 1048576: true; the input reads as it did. -/
def fnExactWallPlainUptoRow : OpenClaim := { program := "ytdhnjecbdclmaaa", sum := "7e469b93b6037a3f93585a1f2bde27ba74dc39a5371abb53329ecf3ef2dc4733", func := "loop.example/floorrooms/laws.FnExactWallPlain", spec := "fnExactWallPlain", inPlace := ["internal/abi.NoEscape"], unfollowed := true, recurses := true, apart := false, narrowed := true }
def FnExactWallPlainUptoSaid : Prop := fnExactWallPlainUptoRow.holds Try.pinned (OpenSpec.upto fnExactWallPlainSpec)

/-- 'laws.FnExactWallCross', WHERE WHAT IT READS IS OF BULK AT MOST 1048576: true; the input reads as it did. -/
def fnExactWallCrossUptoRow : OpenClaim := { program := "ytdhnjecbdclmaaa", sum := "7e469b93b6037a3f93585a1f2bde27ba74dc39a5371abb53329ecf3ef2dc4733", func := "loop.example/floorrooms/laws.FnExactWallCross", spec := "fnExactWallCross", inPlace := ["internal/abi.NoEscape"], unfollowed := true, recurses := true, apart := false, narrowed := true }
def FnExactWallCrossUptoSaid : Prop := fnExactWallCrossUptoRow.holds Try.pinned (OpenSpec.upto fnExactWallCrossSpec)

/-- 'laws.FnExactWallTees', WHERE WHAT IT READS IS OF BULK AT MOST 1048576: true; the input reads as it did. -/
def fnExactWallTeesUptoRow : OpenClaim := { program := "ytdhnjecbdclmaaa", sum := "7e469b93b6037a3f93585a1f2bde27ba74dc39a5371abb53329ecf3ef2dc4733", func := "loop.example/floorrooms/laws.FnExactWallTees", spec := "fnExactWallTees", inPlace := ["internal/abi.NoEscape"], unfollowed := true, recurses := true, apart := false, narrowed := true }
def FnExactWallTeesUptoSaid : Prop := fnExactWallTeesUptoRow.holds Try.pinned (OpenSpec.upto fnExactWallTeesSpec)

/-- 'laws.FnProofCut', WHERE WHAT IT READS IS OF BULK AT MOST 1048576: true; the input reads as it did. -/
def fnProofCutUptoRow : OpenClaim := { program := "ytdhnjecbdclmaaa", sum := "7e469b93b6037a3f93585a1f2bde27ba74dc39a5371abb53329ecf3ef2dc4733", func := "loop.example/floorrooms/laws.FnProofCut", spec := "fnProofCut", inPlace := ["internal/abi.NoEscape"], unfollowed := true, recurses := true, apart := false, narrowed := true }
def FnProofCutUptoSaid : Prop := fnProofCutUptoRow.holds Try.pinned (OpenSpec.upto fnProofCutSpec)

/-- 'laws.FnCutProofIs', WHERE WHAT IT READS IS OF BULK AT MOST 1048576: true; the input reads as it did. -/
def fnCutProofIsUptoRow : OpenClaim := { program := "ytdhnjecbdclmaaa", sum := "7e469b93b6037a3f93585a1f2bde27ba74dc39a5371abb53329ecf3ef2dc4733", func := "loop.example/floorrooms/laws.FnCutProofIs", spec := "fnCutProofIs", inPlace := ["internal/abi.NoEscape"], unfollowed := true, recurses := true, apart := false, narrowed := true }
def FnCutProofIsUptoSaid : Prop := fnCutProofIsUptoRow.holds Try.pinned (OpenSpec.upto fnCutProofIsSpec)

/-- 'laws.FnCutStuck', WHERE WHAT IT READS IS OF BULK AT MOST 1048576: true; the input reads as it did. -/
def fnCutStuckUptoRow : OpenClaim := { program := "ytdhnjecbdclmaaa", sum := "7e469b93b6037a3f93585a1f2bde27ba74dc39a5371abb53329ecf3ef2dc4733", func := "loop.example/floorrooms/laws.FnCutStuck", spec := "fnCutStuck", inPlace := ["internal/abi.NoEscape"], unfollowed := true, recurses := true, apart := false, narrowed := true }
def FnCutStuckUptoSaid : Prop := fnCutStuckUptoRow.holds Try.pinned (OpenSpec.upto fnCutStuckSpec)

/-- 'laws.FnCutDeep', WHERE WHAT IT READS IS OF BULK AT MOST 1048576: true; the input reads as it did. -/
def fnCutDeepUptoRow : OpenClaim := { program := "ytdhnjecbdclmaaa", sum := "7e469b93b6037a3f93585a1f2bde27ba74dc39a5371abb53329ecf3ef2dc4733", func := "loop.example/floorrooms/laws.FnCutDeep", spec := "fnCutDeep", inPlace := ["internal/abi.NoEscape"], unfollowed := true, recurses := true, apart := false, narrowed := true }
def FnCutDeepUptoSaid : Prop := fnCutDeepUptoRow.holds Try.pinned (OpenSpec.upto fnCutDeepSpec)

/-- 'laws.FnCutIs', WHERE WHAT IT READS IS OF BULK AT MOST 1048576: true; the input reads as it did. -/
def fnCutIsUptoRow : OpenClaim := { program := "ytdhnjecbdclmaaa", sum := "7e469b93b6037a3f93585a1f2bde27ba74dc39a5371abb53329ecf3ef2dc4733", func := "loop.example/floorrooms/laws.FnCutIs", spec := "fnCutIs", inPlace := ["internal/abi.NoEscape"], unfollowed := true, recurses := true, apart := false, narrowed := true }
def FnCutIsUptoSaid : Prop := fnCutIsUptoRow.holds Try.pinned (OpenSpec.upto fnCutIsSpec)

/-- 'laws.FnCross', WHERE WHAT IT READS IS OF BULK AT MOST 1048576: true; the input reads as it did. -/
def fnCrossUptoRow : OpenClaim := { program := "ytdhnjecbdclmaaa", sum := "7e469b93b6037a3f93585a1f2bde27ba74dc39a5371abb53329ecf3ef2dc4733", func := "loop.example/floorrooms/laws.FnCross", spec := "fnCross", inPlace := ["internal/abi.NoEscape"], unfollowed := true, recurses := true, apart := false, narrowed := true }
def FnCrossUptoSaid : Prop := fnCrossUptoRow.holds Try.pinned (OpenSpec.upto fnCrossSpec)

/-- 'laws.FnExactOrderLeft', WHERE WHAT IT READS IS OF BULK AT MOST 1048576: true; the input reads as it did. -/
def fnExactOrderLeftUptoRow : OpenClaim := { program := "ytdhnjecbdclmaaa", sum := "7e469b93b6037a3f93585a1f2bde27ba74dc39a5371abb53329ecf3ef2dc4733", func := "loop.example/floorrooms/laws.FnExactOrderLeft", spec := "fnExactOrderLeft", inPlace := ["internal/abi.NoEscape"], unfollowed := true, recurses := true, apart := false, narrowed := true }
def FnExactOrderLeftUptoSaid : Prop := fnExactOrderLeftUptoRow.holds Try.pinned (OpenSpec.upto fnExactOrderLeftSpec)

/-- 'laws.FnExactOrderAbove', WHERE WHAT IT READS IS OF BULK AT MOST 1048576: true; the input reads as it did. -/
def fnExactOrderAboveUptoRow : OpenClaim := { program := "ytdhnjecbdclmaaa", sum := "7e469b93b6037a3f93585a1f2bde27ba74dc39a5371abb53329ecf3ef2dc4733", func := "loop.example/floorrooms/laws.FnExactOrderAbove", spec := "fnExactOrderAbove", inPlace := ["internal/abi.NoEscape"], unfollowed := true, recurses := true, apart := false, narrowed := true }
def FnExactOrderAboveUptoSaid : Prop := fnExactOrderAboveUptoRow.holds Try.pinned (OpenSpec.upto fnExactOrderAboveSpec)

/-- 'laws.FnExactOrderKind', WHERE WHAT IT READS IS OF BULK AT MOST 1048576: true; the input reads as it did. -/
def fnExactOrderKindUptoRow : OpenClaim := { program := "ytdhnjecbdclmaaa", sum := "7e469b93b6037a3f93585a1f2bde27ba74dc39a5371abb53329ecf3ef2dc4733", func := "loop.example/floorrooms/laws.FnExactOrderKind", spec := "fnExactOrderKind", inPlace := ["internal/abi.NoEscape"], unfollowed := true, recurses := true, apart := false, narrowed := true }
def FnExactOrderKindUptoSaid : Prop := fnExactOrderKindUptoRow.holds Try.pinned (OpenSpec.upto fnExactOrderKindSpec)

/-- 'laws.FnExactOrderLong', WHERE WHAT IT READS IS OF BULK AT MOST 1048576: true; the input reads as it did. -/
def fnExactOrderLongUptoRow : OpenClaim := { program := "ytdhnjecbdclmaaa", sum := "7e469b93b6037a3f93585a1f2bde27ba74dc39a5371abb53329ecf3ef2dc4733", func := "loop.example/floorrooms/laws.FnExactOrderLong", spec := "fnExactOrderLong", inPlace := ["internal/abi.NoEscape"], unfollowed := true, recurses := true, apart := false, narrowed := true }
def FnExactOrderLongUptoSaid : Prop := fnExactOrderLongUptoRow.holds Try.pinned (OpenSpec.upto fnExactOrderLongSpec)

/-- 'laws.FnExactSizeCut', WHERE WHAT IT READS IS OF BULK AT MOST 1048576: true; the input reads as it did. -/
def fnExactSizeCutUptoRow : OpenClaim := { program := "ytdhnjecbdclmaaa", sum := "7e469b93b6037a3f93585a1f2bde27ba74dc39a5371abb53329ecf3ef2dc4733", func := "loop.example/floorrooms/laws.FnExactSizeCut", spec := "fnExactSizeCut", inPlace := ["internal/abi.NoEscape"], unfollowed := true, recurses := true, apart := false, narrowed := true }
def FnExactSizeCutUptoSaid : Prop := fnExactSizeCutUptoRow.holds Try.pinned (OpenSpec.upto fnExactSizeCutSpec)

/-- 'laws.FnExactSizeHigh', WHERE WHAT IT READS IS OF BULK AT MOST 1048576: true; the input reads as it did. -/
def fnExactSizeHighUptoRow : OpenClaim := { program := "ytdhnjecbdclmaaa", sum := "7e469b93b6037a3f93585a1f2bde27ba74dc39a5371abb53329ecf3ef2dc4733", func := "loop.example/floorrooms/laws.FnExactSizeHigh", spec := "fnExactSizeHigh", inPlace := ["internal/abi.NoEscape"], unfollowed := true, recurses := true, apart := false, narrowed := true }
def FnExactSizeHighUptoSaid : Prop := fnExactSizeHighUptoRow.holds Try.pinned (OpenSpec.upto fnExactSizeHighSpec)

/-- 'laws.FnExactSizeWide', WHERE WHAT IT READS IS OF BULK AT MOST 1048576: true; the input reads as it did. -/
def fnExactSizeWideUptoRow : OpenClaim := { program := "ytdhnjecbdclmaaa", sum := "7e469b93b6037a3f93585a1f2bde27ba74dc39a5371abb53329ecf3ef2dc4733", func := "loop.example/floorrooms/laws.FnExactSizeWide", spec := "fnExactSizeWide", inPlace := ["internal/abi.NoEscape"], unfollowed := true, recurses := true, apart := false, narrowed := true }
def FnExactSizeWideUptoSaid : Prop := fnExactSizeWideUptoRow.holds Try.pinned (OpenSpec.upto fnExactSizeWideSpec)

/-- 'laws.FnTees', WHERE WHAT IT READS IS OF BULK AT MOST 1048576: true; the input reads as it did. -/
def fnTeesUptoRow : OpenClaim := { program := "ytdhnjecbdclmaaa", sum := "7e469b93b6037a3f93585a1f2bde27ba74dc39a5371abb53329ecf3ef2dc4733", func := "loop.example/floorrooms/laws.FnTees", spec := "fnTees", inPlace := ["internal/abi.NoEscape"], unfollowed := true, recurses := true, apart := false, narrowed := true }
def FnTeesUptoSaid : Prop := fnTeesUptoRow.holds Try.pinned (OpenSpec.upto fnTeesSpec)

/-- 'laws.FnWalls', WHERE WHAT IT READS IS OF BULK AT MOST 1048576: true; the input reads as it did. -/
def fnWallsUptoRow : OpenClaim := { program := "ytdhnjecbdclmaaa", sum := "7e469b93b6037a3f93585a1f2bde27ba74dc39a5371abb53329ecf3ef2dc4733", func := "loop.example/floorrooms/laws.FnWalls", spec := "fnWalls", inPlace := ["internal/abi.NoEscape"], unfollowed := true, recurses := true, apart := false, narrowed := true }
def FnWallsUptoSaid : Prop := fnWallsUptoRow.holds Try.pinned (OpenSpec.upto fnWallsSpec)

/-- 'laws.FnPlain', WHERE WHAT IT READS IS OF BULK AT MOST 1048576: true; the input reads as it did. -/
def fnPlainUptoRow : OpenClaim := { program := "ytdhnjecbdclmaaa", sum := "7e469b93b6037a3f93585a1f2bde27ba74dc39a5371abb53329ecf3ef2dc4733", func := "loop.example/floorrooms/laws.FnPlain", spec := "fnPlain", inPlace := ["internal/abi.NoEscape"], unfollowed := true, recurses := true, apart := false, narrowed := true }
def FnPlainUptoSaid : Prop := fnPlainUptoRow.holds Try.pinned (OpenSpec.upto fnPlainSpec)

/-- 'laws.FnCutWays', WHERE WHAT IT READS IS OF BULK AT MOST 1048576: true; the input reads as it did. -/
def fnCutWaysUptoRow : OpenClaim := { program := "ytdhnjecbdclmaaa", sum := "7e469b93b6037a3f93585a1f2bde27ba74dc39a5371abb53329ecf3ef2dc4733", func := "loop.example/floorrooms/laws.FnCutWays", spec := "fnCutWays", inPlace := ["internal/abi.NoEscape"], unfollowed := true, recurses := true, apart := false, narrowed := true }
def FnCutWaysUptoSaid : Prop := fnCutWaysUptoRow.holds Try.pinned (OpenSpec.upto fnCutWaysSpec)

end Rows
end Go.Proofs.Ytdhnjecbdclmaaa
