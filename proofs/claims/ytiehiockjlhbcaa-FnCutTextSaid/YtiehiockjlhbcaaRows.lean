/-
  No cell of these rows narrows 'for every input' (looked for: loops, veiled, ifaces, maps, wideKeys, modest, calm, conditions, laid).
  DERIVED. THE GIVEN ROWS OF THIS SEAT. 12 by the template 'for every input the law returns true; each argument reads behind the call as it read before'; 0 by the template 'total and deterministic' (their statements: YtiehiockjlhbcaaTotals.lean).
  GIVEN WITH THE SEED: the statements are not yours to turn. If you find one false, say at which input.
  Laid BY PROGRAM, IN A SANDBOX (cutbox-rows.mjs): the forced cells as the released guide's own fill.sh prints them over the translation 2175c17a6a07b582… (all of the seat's roots in one cut). By AI agents, Wed Nov 11 2026. No macro, syntax, notation, axiom, sorry.
-/
import Derived.Test.YtiehiockjlhbcaaChecked
import GoSem.Claim
import GoSem.ClaimJoined
import GoSem.ClaimMapViews
import Derived.JoinedTies
import Derived.KernelRfl
namespace Go.Proofs.Ytiehiockjlhbcaa
/- THE CELL 'sum', in the pinned program and in every row, IS THE sha256 OF THE DUMP (.gsa) THAT YtiehiockjlhbcaaProg.lean LOADS. Nothing in Lean hashes anything: it is a label: what it is worth is what the hold of that sum in a sandbox is worth. -/
noncomputable def Try.pinned : Pinned := { name := "ytiehiockjlhbcaa", sum := "2175c17a6a07b582596e88c91b1835788ea22c9dfdd9548d6f728262274dd18b", checked := Try.checked }
namespace Rows
def none {H : Type} : Left H := { results := [], args := [] }

/-- 'laws.FnExactCutText': WHATEVER THE INPUT: true; the input reads as it did. -/
def fnExactCutTextSpec : ChangeSpec := { name := "fnExactCutText", fn := fun _ => fun
  | [d] => { results := [.lit (.bool true)], args := [d] }
  | _ => none }
def fnExactCutTextRow : OpenClaim := { program := "ytiehiockjlhbcaa", sum := "2175c17a6a07b582596e88c91b1835788ea22c9dfdd9548d6f728262274dd18b", func := "loop.example/floorrooms/laws.FnExactCutText", spec := "fnExactCutText", inPlace := ["internal/abi.NoEscape"], unfollowed := true, recurses := true, apart := false }
def FnExactCutTextSaid : Prop := fnExactCutTextRow.holds Try.pinned (OpenSpec.ofChange fnExactCutTextSpec)

/-- ITS FALSE NEIGHBOUR: 'it returns false'. Refute it at one input. -/
def fnExactCutTextWrong : ChangeSpec := { name := "fnExactCutText", fn := fun _ => fun
  | [d] => { results := [.lit (.bool false)], args := [d] }
  | _ => none }
def FnExactCutTextWrongFalsely : Prop := fnExactCutTextRow.holds Try.pinned (OpenSpec.ofChange fnExactCutTextWrong)

/-- 'laws.FnExactCutIs': WHATEVER THE INPUT: true; the input reads as it did. -/
def fnExactCutIsSpec : ChangeSpec := { name := "fnExactCutIs", fn := fun _ => fun
  | [d] => { results := [.lit (.bool true)], args := [d] }
  | _ => none }
def fnExactCutIsRow : OpenClaim := { program := "ytiehiockjlhbcaa", sum := "2175c17a6a07b582596e88c91b1835788ea22c9dfdd9548d6f728262274dd18b", func := "loop.example/floorrooms/laws.FnExactCutIs", spec := "fnExactCutIs", inPlace := ["internal/abi.NoEscape"], unfollowed := true, recurses := true, apart := false }
def FnExactCutIsSaid : Prop := fnExactCutIsRow.holds Try.pinned (OpenSpec.ofChange fnExactCutIsSpec)

/-- ITS FALSE NEIGHBOUR: 'it returns false'. Refute it at one input. -/
def fnExactCutIsWrong : ChangeSpec := { name := "fnExactCutIs", fn := fun _ => fun
  | [d] => { results := [.lit (.bool false)], args := [d] }
  | _ => none }
def FnExactCutIsWrongFalsely : Prop := fnExactCutIsRow.holds Try.pinned (OpenSpec.ofChange fnExactCutIsWrong)

/-- 'laws.FnExactCutWays': WHATEVER THE INPUT: true; the input reads as it did. -/
def fnExactCutWaysSpec : ChangeSpec := { name := "fnExactCutWays", fn := fun _ => fun
  | [d] => { results := [.lit (.bool true)], args := [d] }
  | _ => none }
def fnExactCutWaysRow : OpenClaim := { program := "ytiehiockjlhbcaa", sum := "2175c17a6a07b582596e88c91b1835788ea22c9dfdd9548d6f728262274dd18b", func := "loop.example/floorrooms/laws.FnExactCutWays", spec := "fnExactCutWays", inPlace := ["internal/abi.NoEscape"], unfollowed := true, recurses := true, apart := false }
def FnExactCutWaysSaid : Prop := fnExactCutWaysRow.holds Try.pinned (OpenSpec.ofChange fnExactCutWaysSpec)

/-- ITS FALSE NEIGHBOUR: 'it returns false'. Refute it at one input. -/
def fnExactCutWaysWrong : ChangeSpec := { name := "fnExactCutWays", fn := fun _ => fun
  | [d] => { results := [.lit (.bool false)], args := [d] }
  | _ => none }
def FnExactCutWaysWrongFalsely : Prop := fnExactCutWaysRow.holds Try.pinned (OpenSpec.ofChange fnExactCutWaysWrong)

/-- 'laws.FnProofAll': WHATEVER THE INPUT: true; the input reads as it did. -/
def fnProofAllSpec : ChangeSpec := { name := "fnProofAll", fn := fun _ => fun
  | [d] => { results := [.lit (.bool true)], args := [d] }
  | _ => none }
def fnProofAllRow : OpenClaim := { program := "ytiehiockjlhbcaa", sum := "2175c17a6a07b582596e88c91b1835788ea22c9dfdd9548d6f728262274dd18b", func := "loop.example/floorrooms/laws.FnProofAll", spec := "fnProofAll", inPlace := ["internal/abi.NoEscape"], unfollowed := true, recurses := true, apart := false }
def FnProofAllSaid : Prop := fnProofAllRow.holds Try.pinned (OpenSpec.ofChange fnProofAllSpec)

/-- ITS FALSE NEIGHBOUR: 'it returns false'. Refute it at one input. -/
def fnProofAllWrong : ChangeSpec := { name := "fnProofAll", fn := fun _ => fun
  | [d] => { results := [.lit (.bool false)], args := [d] }
  | _ => none }
def FnProofAllWrongFalsely : Prop := fnProofAllRow.holds Try.pinned (OpenSpec.ofChange fnProofAllWrong)

/-- 'laws.FnExactCutDeep': WHATEVER THE INPUT: true; the input reads as it did. -/
def fnExactCutDeepSpec : ChangeSpec := { name := "fnExactCutDeep", fn := fun _ => fun
  | [d] => { results := [.lit (.bool true)], args := [d] }
  | _ => none }
def fnExactCutDeepRow : OpenClaim := { program := "ytiehiockjlhbcaa", sum := "2175c17a6a07b582596e88c91b1835788ea22c9dfdd9548d6f728262274dd18b", func := "loop.example/floorrooms/laws.FnExactCutDeep", spec := "fnExactCutDeep", inPlace := ["internal/abi.NoEscape"], unfollowed := true, recurses := true, apart := false }
def FnExactCutDeepSaid : Prop := fnExactCutDeepRow.holds Try.pinned (OpenSpec.ofChange fnExactCutDeepSpec)

/-- ITS FALSE NEIGHBOUR: 'it returns false'. Refute it at one input. -/
def fnExactCutDeepWrong : ChangeSpec := { name := "fnExactCutDeep", fn := fun _ => fun
  | [d] => { results := [.lit (.bool false)], args := [d] }
  | _ => none }
def FnExactCutDeepWrongFalsely : Prop := fnExactCutDeepRow.holds Try.pinned (OpenSpec.ofChange fnExactCutDeepWrong)

/-- 'laws.FnCutOr': WHATEVER THE INPUT: true; the input reads as it did. -/
def fnCutOrSpec : ChangeSpec := { name := "fnCutOr", fn := fun _ => fun
  | [d] => { results := [.lit (.bool true)], args := [d] }
  | _ => none }
def fnCutOrRow : OpenClaim := { program := "ytiehiockjlhbcaa", sum := "2175c17a6a07b582596e88c91b1835788ea22c9dfdd9548d6f728262274dd18b", func := "loop.example/floorrooms/laws.FnCutOr", spec := "fnCutOr", inPlace := ["internal/abi.NoEscape"], unfollowed := true, recurses := true, apart := false }
def FnCutOrSaid : Prop := fnCutOrRow.holds Try.pinned (OpenSpec.ofChange fnCutOrSpec)

/-- ITS FALSE NEIGHBOUR: 'it returns false'. Refute it at one input. -/
def fnCutOrWrong : ChangeSpec := { name := "fnCutOr", fn := fun _ => fun
  | [d] => { results := [.lit (.bool false)], args := [d] }
  | _ => none }
def FnCutOrWrongFalsely : Prop := fnCutOrRow.holds Try.pinned (OpenSpec.ofChange fnCutOrWrong)

/-- 'laws.FnExactCutStuck': WHATEVER THE INPUT: true; the input reads as it did. -/
def fnExactCutStuckSpec : ChangeSpec := { name := "fnExactCutStuck", fn := fun _ => fun
  | [d] => { results := [.lit (.bool true)], args := [d] }
  | _ => none }
def fnExactCutStuckRow : OpenClaim := { program := "ytiehiockjlhbcaa", sum := "2175c17a6a07b582596e88c91b1835788ea22c9dfdd9548d6f728262274dd18b", func := "loop.example/floorrooms/laws.FnExactCutStuck", spec := "fnExactCutStuck", inPlace := ["internal/abi.NoEscape"], unfollowed := true, recurses := true, apart := false }
def FnExactCutStuckSaid : Prop := fnExactCutStuckRow.holds Try.pinned (OpenSpec.ofChange fnExactCutStuckSpec)

/-- ITS FALSE NEIGHBOUR: 'it returns false'. Refute it at one input. -/
def fnExactCutStuckWrong : ChangeSpec := { name := "fnExactCutStuck", fn := fun _ => fun
  | [d] => { results := [.lit (.bool false)], args := [d] }
  | _ => none }
def FnExactCutStuckWrongFalsely : Prop := fnExactCutStuckRow.holds Try.pinned (OpenSpec.ofChange fnExactCutStuckWrong)

/-- 'laws.FnExactProofCut': WHATEVER THE INPUT: true; the input reads as it did. -/
def fnExactProofCutSpec : ChangeSpec := { name := "fnExactProofCut", fn := fun _ => fun
  | [d] => { results := [.lit (.bool true)], args := [d] }
  | _ => none }
def fnExactProofCutRow : OpenClaim := { program := "ytiehiockjlhbcaa", sum := "2175c17a6a07b582596e88c91b1835788ea22c9dfdd9548d6f728262274dd18b", func := "loop.example/floorrooms/laws.FnExactProofCut", spec := "fnExactProofCut", inPlace := ["internal/abi.NoEscape"], unfollowed := true, recurses := true, apart := false }
def FnExactProofCutSaid : Prop := fnExactProofCutRow.holds Try.pinned (OpenSpec.ofChange fnExactProofCutSpec)

/-- ITS FALSE NEIGHBOUR: 'it returns false'. Refute it at one input. -/
def fnExactProofCutWrong : ChangeSpec := { name := "fnExactProofCut", fn := fun _ => fun
  | [d] => { results := [.lit (.bool false)], args := [d] }
  | _ => none }
def FnExactProofCutWrongFalsely : Prop := fnExactProofCutRow.holds Try.pinned (OpenSpec.ofChange fnExactProofCutWrong)

/-- 'laws.FnExactProofCutIs': WHATEVER THE INPUT: true; the input reads as it did. -/
def fnExactProofCutIsSpec : ChangeSpec := { name := "fnExactProofCutIs", fn := fun _ => fun
  | [d1, d2] => { results := [.lit (.bool true)], args := [d1, d2] }
  | _ => none }
def fnExactProofCutIsRow : OpenClaim := { program := "ytiehiockjlhbcaa", sum := "2175c17a6a07b582596e88c91b1835788ea22c9dfdd9548d6f728262274dd18b", func := "loop.example/floorrooms/laws.FnExactProofCutIs", spec := "fnExactProofCutIs", inPlace := ["internal/abi.NoEscape"], unfollowed := true, recurses := true, apart := false }
def FnExactProofCutIsSaid : Prop := fnExactProofCutIsRow.holds Try.pinned (OpenSpec.ofChange fnExactProofCutIsSpec)

/-- ITS FALSE NEIGHBOUR: 'it returns false'. Refute it at one input. -/
def fnExactProofCutIsWrong : ChangeSpec := { name := "fnExactProofCutIs", fn := fun _ => fun
  | [d1, d2] => { results := [.lit (.bool false)], args := [d1, d2] }
  | _ => none }
def FnExactProofCutIsWrongFalsely : Prop := fnExactProofCutIsRow.holds Try.pinned (OpenSpec.ofChange fnExactProofCutIsWrong)

/-- 'laws.FnExactCountCut': WHATEVER THE INPUT: true; the input reads as it did. -/
def fnExactCountCutSpec : ChangeSpec := { name := "fnExactCountCut", fn := fun _ => fun
  | [d1, d2] => { results := [.lit (.bool true)], args := [d1, d2] }
  | _ => none }
def fnExactCountCutRow : OpenClaim := { program := "ytiehiockjlhbcaa", sum := "2175c17a6a07b582596e88c91b1835788ea22c9dfdd9548d6f728262274dd18b", func := "loop.example/floorrooms/laws.FnExactCountCut", spec := "fnExactCountCut", unfollowed := true, recurses := true, apart := false }
def FnExactCountCutSaid : Prop := fnExactCountCutRow.holds Try.pinned (OpenSpec.ofChange fnExactCountCutSpec)

/-- ITS FALSE NEIGHBOUR: 'it returns false'. Refute it at one input. -/
def fnExactCountCutWrong : ChangeSpec := { name := "fnExactCountCut", fn := fun _ => fun
  | [d1, d2] => { results := [.lit (.bool false)], args := [d1, d2] }
  | _ => none }
def FnExactCountCutWrongFalsely : Prop := fnExactCountCutRow.holds Try.pinned (OpenSpec.ofChange fnExactCountCutWrong)

/-- 'laws.FnCutText': WHATEVER THE INPUT: true; the input reads as it did. -/
def fnCutTextSpec : ChangeSpec := { name := "fnCutText", fn := fun _ => fun
  | [d] => { results := [.lit (.bool true)], args := [d] }
  | _ => none }
def fnCutTextRow : OpenClaim := { program := "ytiehiockjlhbcaa", sum := "2175c17a6a07b582596e88c91b1835788ea22c9dfdd9548d6f728262274dd18b", func := "loop.example/floorrooms/laws.FnCutText", spec := "fnCutText", inPlace := ["internal/abi.NoEscape"], unfollowed := true, recurses := true, apart := false }
def FnCutTextSaid : Prop := fnCutTextRow.holds Try.pinned (OpenSpec.ofChange fnCutTextSpec)

/-- ITS FALSE NEIGHBOUR: 'it returns false'. Refute it at one input. -/
def fnCutTextWrong : ChangeSpec := { name := "fnCutText", fn := fun _ => fun
  | [d] => { results := [.lit (.bool false)], args := [d] }
  | _ => none }
def FnCutTextWrongFalsely : Prop := fnCutTextRow.holds Try.pinned (OpenSpec.ofChange fnCutTextWrong)

/-- 'laws.FnCutIs': WHATEVER THE INPUT: true; the input reads as it did. -/
def fnCutIsSpec : ChangeSpec := { name := "fnCutIs", fn := fun _ => fun
  | [d] => { results := [.lit (.bool true)], args := [d] }
  | _ => none }
def fnCutIsRow : OpenClaim := { program := "ytiehiockjlhbcaa", sum := "2175c17a6a07b582596e88c91b1835788ea22c9dfdd9548d6f728262274dd18b", func := "loop.example/floorrooms/laws.FnCutIs", spec := "fnCutIs", inPlace := ["internal/abi.NoEscape"], unfollowed := true, recurses := true, apart := false }
def FnCutIsSaid : Prop := fnCutIsRow.holds Try.pinned (OpenSpec.ofChange fnCutIsSpec)

/-- ITS FALSE NEIGHBOUR: 'it returns false'. Refute it at one input. -/
def fnCutIsWrong : ChangeSpec := { name := "fnCutIs", fn := fun _ => fun
  | [d] => { results := [.lit (.bool false)], args := [d] }
  | _ => none }
def FnCutIsWrongFalsely : Prop := fnCutIsRow.holds Try.pinned (OpenSpec.ofChange fnCutIsWrong)

/- THE SECOND FORM. 'bulk': how many values and letters a reading holds, each counted each time it is reached (what is shared counts as often as it is met; a slice's spare places count too). A statement '..UptoSaid' is the law's where the arguments, and the package variables that the reading takes, are together of bulk at most 1048576: NARROWER than '..Said'. Prove '..Said' where nothing that the law and all that it calls make is longer than what came in: it says more and counts as full. Else prove '..UptoSaid'. A law counts once. -/
mutual
def uptoBulk {H : Type} : DataW H → Nat
  | .lit (.string bytes) => bytes.length + 1
  | .lit _ => 1
  | .nil => 1
  | .ptr d => uptoBulk d + 1
  | .slice elems spare => uptoBulkAll elems + uptoBulkAll spare + 1
  | .agg parts => uptoBulkAll parts + 1
  | .iface _ d => uptoBulk d + 1
  | .map entries => uptoBulkEntries entries + 1
  | .held _ => 1
def uptoBulkAll {H : Type} : List (DataW H) → Nat
  | [] => 0
  | d :: r => uptoBulk d + uptoBulkAll r
def uptoBulkEntries {H : Type} : List (Lit × DataW H) → Nat
  | [] => 0
  | x :: r => uptoBulkEntry x + uptoBulkEntries r
def uptoBulkEntry {H : Type} : Lit × DataW H → Nat
  | (.string bytes, d) => bytes.length + uptoBulk d + 1
  | (_, d) => uptoBulk d + 1
 end
def uptoSmall : (H : Type) → List (DataW H) → Bool := fun _ ds => decide (uptoBulkAll ds ≤ 1048576)
def OpenSpec.upto (s : _root_.Go.ChangeSpec) : _root_.Go.OpenSpec := { _root_.Go.OpenSpec.ofChange s with cond := some uptoSmall }

/-- 'laws.FnExactCutText', WHERE WHAT IT READS IS OF BULK AT MOST 1048576: true; the input reads as it did. -/
def fnExactCutTextUptoRow : OpenClaim := { program := "ytiehiockjlhbcaa", sum := "2175c17a6a07b582596e88c91b1835788ea22c9dfdd9548d6f728262274dd18b", func := "loop.example/floorrooms/laws.FnExactCutText", spec := "fnExactCutText", inPlace := ["internal/abi.NoEscape"], unfollowed := true, recurses := true, apart := false, narrowed := true }
def FnExactCutTextUptoSaid : Prop := fnExactCutTextUptoRow.holds Try.pinned (OpenSpec.upto fnExactCutTextSpec)

/-- 'laws.FnExactCutIs', WHERE WHAT IT READS IS OF BULK AT MOST 1048576: true; the input reads as it did. -/
def fnExactCutIsUptoRow : OpenClaim := { program := "ytiehiockjlhbcaa", sum := "2175c17a6a07b582596e88c91b1835788ea22c9dfdd9548d6f728262274dd18b", func := "loop.example/floorrooms/laws.FnExactCutIs", spec := "fnExactCutIs", inPlace := ["internal/abi.NoEscape"], unfollowed := true, recurses := true, apart := false, narrowed := true }
def FnExactCutIsUptoSaid : Prop := fnExactCutIsUptoRow.holds Try.pinned (OpenSpec.upto fnExactCutIsSpec)

/-- 'laws.FnExactCutWays', WHERE WHAT IT READS IS OF BULK AT MOST 1048576: true; the input reads as it did. -/
def fnExactCutWaysUptoRow : OpenClaim := { program := "ytiehiockjlhbcaa", sum := "2175c17a6a07b582596e88c91b1835788ea22c9dfdd9548d6f728262274dd18b", func := "loop.example/floorrooms/laws.FnExactCutWays", spec := "fnExactCutWays", inPlace := ["internal/abi.NoEscape"], unfollowed := true, recurses := true, apart := false, narrowed := true }
def FnExactCutWaysUptoSaid : Prop := fnExactCutWaysUptoRow.holds Try.pinned (OpenSpec.upto fnExactCutWaysSpec)

/-- 'laws.FnProofAll', WHERE WHAT IT READS IS OF BULK AT MOST 1048576: true; the input reads as it did. -/
def fnProofAllUptoRow : OpenClaim := { program := "ytiehiockjlhbcaa", sum := "2175c17a6a07b582596e88c91b1835788ea22c9dfdd9548d6f728262274dd18b", func := "loop.example/floorrooms/laws.FnProofAll", spec := "fnProofAll", inPlace := ["internal/abi.NoEscape"], unfollowed := true, recurses := true, apart := false, narrowed := true }
def FnProofAllUptoSaid : Prop := fnProofAllUptoRow.holds Try.pinned (OpenSpec.upto fnProofAllSpec)

/-- 'laws.FnExactCutDeep', WHERE WHAT IT READS IS OF BULK AT MOST 1048576: true; the input reads as it did. -/
def fnExactCutDeepUptoRow : OpenClaim := { program := "ytiehiockjlhbcaa", sum := "2175c17a6a07b582596e88c91b1835788ea22c9dfdd9548d6f728262274dd18b", func := "loop.example/floorrooms/laws.FnExactCutDeep", spec := "fnExactCutDeep", inPlace := ["internal/abi.NoEscape"], unfollowed := true, recurses := true, apart := false, narrowed := true }
def FnExactCutDeepUptoSaid : Prop := fnExactCutDeepUptoRow.holds Try.pinned (OpenSpec.upto fnExactCutDeepSpec)

/-- 'laws.FnCutOr', WHERE WHAT IT READS IS OF BULK AT MOST 1048576: true; the input reads as it did. -/
def fnCutOrUptoRow : OpenClaim := { program := "ytiehiockjlhbcaa", sum := "2175c17a6a07b582596e88c91b1835788ea22c9dfdd9548d6f728262274dd18b", func := "loop.example/floorrooms/laws.FnCutOr", spec := "fnCutOr", inPlace := ["internal/abi.NoEscape"], unfollowed := true, recurses := true, apart := false, narrowed := true }
def FnCutOrUptoSaid : Prop := fnCutOrUptoRow.holds Try.pinned (OpenSpec.upto fnCutOrSpec)

/-- 'laws.FnExactCutStuck', WHERE WHAT IT READS IS OF BULK AT MOST 1048576: true; the input reads as it did. -/
def fnExactCutStuckUptoRow : OpenClaim := { program := "ytiehiockjlhbcaa", sum := "2175c17a6a07b582596e88c91b1835788ea22c9dfdd9548d6f728262274dd18b", func := "loop.example/floorrooms/laws.FnExactCutStuck", spec := "fnExactCutStuck", inPlace := ["internal/abi.NoEscape"], unfollowed := true, recurses := true, apart := false, narrowed := true }
def FnExactCutStuckUptoSaid : Prop := fnExactCutStuckUptoRow.holds Try.pinned (OpenSpec.upto fnExactCutStuckSpec)

/-- 'laws.FnExactProofCut', WHERE WHAT IT READS IS OF BULK AT MOST 1048576: true; the input reads as it did. -/
def fnExactProofCutUptoRow : OpenClaim := { program := "ytiehiockjlhbcaa", sum := "2175c17a6a07b582596e88c91b1835788ea22c9dfdd9548d6f728262274dd18b", func := "loop.example/floorrooms/laws.FnExactProofCut", spec := "fnExactProofCut", inPlace := ["internal/abi.NoEscape"], unfollowed := true, recurses := true, apart := false, narrowed := true }
def FnExactProofCutUptoSaid : Prop := fnExactProofCutUptoRow.holds Try.pinned (OpenSpec.upto fnExactProofCutSpec)

/-- 'laws.FnExactProofCutIs', WHERE WHAT IT READS IS OF BULK AT MOST 1048576: true; the input reads as it did. -/
def fnExactProofCutIsUptoRow : OpenClaim := { program := "ytiehiockjlhbcaa", sum := "2175c17a6a07b582596e88c91b1835788ea22c9dfdd9548d6f728262274dd18b", func := "loop.example/floorrooms/laws.FnExactProofCutIs", spec := "fnExactProofCutIs", inPlace := ["internal/abi.NoEscape"], unfollowed := true, recurses := true, apart := false, narrowed := true }
def FnExactProofCutIsUptoSaid : Prop := fnExactProofCutIsUptoRow.holds Try.pinned (OpenSpec.upto fnExactProofCutIsSpec)

/-- 'laws.FnExactCountCut', WHERE WHAT IT READS IS OF BULK AT MOST 1048576: true; the input reads as it did. -/
def fnExactCountCutUptoRow : OpenClaim := { program := "ytiehiockjlhbcaa", sum := "2175c17a6a07b582596e88c91b1835788ea22c9dfdd9548d6f728262274dd18b", func := "loop.example/floorrooms/laws.FnExactCountCut", spec := "fnExactCountCut", unfollowed := true, recurses := true, apart := false, narrowed := true }
def FnExactCountCutUptoSaid : Prop := fnExactCountCutUptoRow.holds Try.pinned (OpenSpec.upto fnExactCountCutSpec)

/-- 'laws.FnCutText', WHERE WHAT IT READS IS OF BULK AT MOST 1048576: true; the input reads as it did. -/
def fnCutTextUptoRow : OpenClaim := { program := "ytiehiockjlhbcaa", sum := "2175c17a6a07b582596e88c91b1835788ea22c9dfdd9548d6f728262274dd18b", func := "loop.example/floorrooms/laws.FnCutText", spec := "fnCutText", inPlace := ["internal/abi.NoEscape"], unfollowed := true, recurses := true, apart := false, narrowed := true }
def FnCutTextUptoSaid : Prop := fnCutTextUptoRow.holds Try.pinned (OpenSpec.upto fnCutTextSpec)

/-- 'laws.FnCutIs', WHERE WHAT IT READS IS OF BULK AT MOST 1048576: true; the input reads as it did. -/
def fnCutIsUptoRow : OpenClaim := { program := "ytiehiockjlhbcaa", sum := "2175c17a6a07b582596e88c91b1835788ea22c9dfdd9548d6f728262274dd18b", func := "loop.example/floorrooms/laws.FnCutIs", spec := "fnCutIs", inPlace := ["internal/abi.NoEscape"], unfollowed := true, recurses := true, apart := false, narrowed := true }
def FnCutIsUptoSaid : Prop := fnCutIsUptoRow.holds Try.pinned (OpenSpec.upto fnCutIsSpec)

end Rows
end Go.Proofs.Ytiehiockjlhbcaa
