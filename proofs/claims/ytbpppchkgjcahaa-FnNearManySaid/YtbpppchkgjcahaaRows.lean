/-
  No cell of these rows narrows 'for every input' (looked for: loops, veiled, ifaces, maps, wideKeys, modest, calm, conditions, laid).
  DERIVED. THE GIVEN ROWS OF THIS SEAT. 12 by the template 'for every input the law returns true; each argument reads behind the call as it read before'; 0 by the template 'total and deterministic' (their statements: YtbpppchkgjcahaaTotals.lean).
  GIVEN WITH THE SEED: the statements are not yours to turn. If you find one false, say at which input.
  Laid BY PROGRAM, IN A SANDBOX (cutbox-rows.mjs): the forced cells as the released guide's own fill.sh prints them over the translation 2c52b9f042726f79… (all of the seat's roots in one cut). By AI agents, Wed Nov 11 2026. No macro, syntax, notation, axiom, sorry.
-/
import Derived.Test.YtbpppchkgjcahaaChecked
import GoSem.Claim
import GoSem.ClaimJoined
import GoSem.ClaimMapViews
import Derived.JoinedTies
import Derived.KernelRfl
namespace Go.Proofs.Ytbpppchkgjcahaa
/- THE CELL 'sum', in the pinned program and in every row, IS THE sha256 OF THE DUMP (.gsa) THAT YtbpppchkgjcahaaProg.lean LOADS. Nothing in Lean hashes anything: it is a label: what it is worth is what the hold of that sum in a sandbox is worth. -/
noncomputable def Try.pinned : Pinned := { name := "ytbpppchkgjcahaa", sum := "2c52b9f042726f799b2535d2932c5d804c7aea3f0ae8304df86bc2e1d5feac91", checked := Try.checked }
namespace Rows
def none {H : Type} : Left H := { results := [], args := [] }

/-- 'laws.FnExactTermOf': WHATEVER THE INPUT: true; the input reads as it did. -/
def fnExactTermOfSpec : ChangeSpec := { name := "fnExactTermOf", fn := fun _ => fun
  | [d] => { results := [.lit (.bool true)], args := [d] }
  | _ => none }
def fnExactTermOfRow : OpenClaim := { program := "ytbpppchkgjcahaa", sum := "2c52b9f042726f799b2535d2932c5d804c7aea3f0ae8304df86bc2e1d5feac91", func := "loop.example/floorrooms/laws.FnExactTermOf", spec := "fnExactTermOf", inPlace := ["internal/abi.NoEscape"], unfollowed := true, recurses := true, apart := false }
def FnExactTermOfSaid : Prop := fnExactTermOfRow.holds Try.pinned (OpenSpec.ofChange fnExactTermOfSpec)

/-- ITS FALSE NEIGHBOUR: 'it returns false'. Refute it at one input. -/
def fnExactTermOfWrong : ChangeSpec := { name := "fnExactTermOf", fn := fun _ => fun
  | [d] => { results := [.lit (.bool false)], args := [d] }
  | _ => none }
def FnExactTermOfWrongFalsely : Prop := fnExactTermOfRow.holds Try.pinned (OpenSpec.ofChange fnExactTermOfWrong)

/-- 'laws.FnNearWay': WHATEVER THE INPUT: true; the input reads as it did. -/
def fnNearWaySpec : ChangeSpec := { name := "fnNearWay", fn := fun _ => fun
  | [d] => { results := [.lit (.bool true)], args := [d] }
  | _ => none }
def fnNearWayRow : OpenClaim := { program := "ytbpppchkgjcahaa", sum := "2c52b9f042726f799b2535d2932c5d804c7aea3f0ae8304df86bc2e1d5feac91", func := "loop.example/floorrooms/laws.FnNearWay", spec := "fnNearWay", inPlace := ["internal/abi.NoEscape"], unfollowed := true, recurses := true, apart := false }
def FnNearWaySaid : Prop := fnNearWayRow.holds Try.pinned (OpenSpec.ofChange fnNearWaySpec)

/-- ITS FALSE NEIGHBOUR: 'it returns false'. Refute it at one input. -/
def fnNearWayWrong : ChangeSpec := { name := "fnNearWay", fn := fun _ => fun
  | [d] => { results := [.lit (.bool false)], args := [d] }
  | _ => none }
def FnNearWayWrongFalsely : Prop := fnNearWayRow.holds Try.pinned (OpenSpec.ofChange fnNearWayWrong)

/-- 'laws.FnNearFar': WHATEVER THE INPUT: true; the input reads as it did. -/
def fnNearFarSpec : ChangeSpec := { name := "fnNearFar", fn := fun _ => fun
  | [d] => { results := [.lit (.bool true)], args := [d] }
  | _ => none }
def fnNearFarRow : OpenClaim := { program := "ytbpppchkgjcahaa", sum := "2c52b9f042726f799b2535d2932c5d804c7aea3f0ae8304df86bc2e1d5feac91", func := "loop.example/floorrooms/laws.FnNearFar", spec := "fnNearFar", inPlace := ["internal/abi.NoEscape"], unfollowed := true, recurses := true, apart := false }
def FnNearFarSaid : Prop := fnNearFarRow.holds Try.pinned (OpenSpec.ofChange fnNearFarSpec)

/-- ITS FALSE NEIGHBOUR: 'it returns false'. Refute it at one input. -/
def fnNearFarWrong : ChangeSpec := { name := "fnNearFar", fn := fun _ => fun
  | [d] => { results := [.lit (.bool false)], args := [d] }
  | _ => none }
def FnNearFarWrongFalsely : Prop := fnNearFarRow.holds Try.pinned (OpenSpec.ofChange fnNearFarWrong)

/-- 'laws.FnNearFirst': WHATEVER THE INPUT: true; the input reads as it did. -/
def fnNearFirstSpec : ChangeSpec := { name := "fnNearFirst", fn := fun _ => fun
  | [d] => { results := [.lit (.bool true)], args := [d] }
  | _ => none }
def fnNearFirstRow : OpenClaim := { program := "ytbpppchkgjcahaa", sum := "2c52b9f042726f799b2535d2932c5d804c7aea3f0ae8304df86bc2e1d5feac91", func := "loop.example/floorrooms/laws.FnNearFirst", spec := "fnNearFirst", inPlace := ["internal/abi.NoEscape"], unfollowed := true, recurses := true, apart := false }
def FnNearFirstSaid : Prop := fnNearFirstRow.holds Try.pinned (OpenSpec.ofChange fnNearFirstSpec)

/-- ITS FALSE NEIGHBOUR: 'it returns false'. Refute it at one input. -/
def fnNearFirstWrong : ChangeSpec := { name := "fnNearFirst", fn := fun _ => fun
  | [d] => { results := [.lit (.bool false)], args := [d] }
  | _ => none }
def FnNearFirstWrongFalsely : Prop := fnNearFirstRow.holds Try.pinned (OpenSpec.ofChange fnNearFirstWrong)

/-- 'laws.FnNearMany': WHATEVER THE INPUT: true; the input reads as it did. -/
def fnNearManySpec : ChangeSpec := { name := "fnNearMany", fn := fun _ => fun
  | [d] => { results := [.lit (.bool true)], args := [d] }
  | _ => none }
def fnNearManyRow : OpenClaim := { program := "ytbpppchkgjcahaa", sum := "2c52b9f042726f799b2535d2932c5d804c7aea3f0ae8304df86bc2e1d5feac91", func := "loop.example/floorrooms/laws.FnNearMany", spec := "fnNearMany", inPlace := ["internal/abi.NoEscape"], unfollowed := true, recurses := true, apart := false }
def FnNearManySaid : Prop := fnNearManyRow.holds Try.pinned (OpenSpec.ofChange fnNearManySpec)

/-- ITS FALSE NEIGHBOUR: 'it returns false'. Refute it at one input. -/
def fnNearManyWrong : ChangeSpec := { name := "fnNearMany", fn := fun _ => fun
  | [d] => { results := [.lit (.bool false)], args := [d] }
  | _ => none }
def FnNearManyWrongFalsely : Prop := fnNearManyRow.holds Try.pinned (OpenSpec.ofChange fnNearManyWrong)

/-- 'laws.FnExactCountCut': WHATEVER THE INPUT: true; the input reads as it did. -/
def fnExactCountCutSpec : ChangeSpec := { name := "fnExactCountCut", fn := fun _ => fun
  | [d1, d2] => { results := [.lit (.bool true)], args := [d1, d2] }
  | _ => none }
def fnExactCountCutRow : OpenClaim := { program := "ytbpppchkgjcahaa", sum := "2c52b9f042726f799b2535d2932c5d804c7aea3f0ae8304df86bc2e1d5feac91", func := "loop.example/floorrooms/laws.FnExactCountCut", spec := "fnExactCountCut", unfollowed := true, recurses := true, apart := false }
def FnExactCountCutSaid : Prop := fnExactCountCutRow.holds Try.pinned (OpenSpec.ofChange fnExactCountCutSpec)

/-- ITS FALSE NEIGHBOUR: 'it returns false'. Refute it at one input. -/
def fnExactCountCutWrong : ChangeSpec := { name := "fnExactCountCut", fn := fun _ => fun
  | [d1, d2] => { results := [.lit (.bool false)], args := [d1, d2] }
  | _ => none }
def FnExactCountCutWrongFalsely : Prop := fnExactCountCutRow.holds Try.pinned (OpenSpec.ofChange fnExactCountCutWrong)

/-- 'laws.FnCountCut': WHATEVER THE INPUT: true; the input reads as it did. -/
def fnCountCutSpec : ChangeSpec := { name := "fnCountCut", fn := fun _ => fun
  | [d] => { results := [.lit (.bool true)], args := [d] }
  | _ => none }
def fnCountCutRow : OpenClaim := { program := "ytbpppchkgjcahaa", sum := "2c52b9f042726f799b2535d2932c5d804c7aea3f0ae8304df86bc2e1d5feac91", func := "loop.example/floorrooms/laws.FnCountCut", spec := "fnCountCut", unfollowed := true, recurses := true, apart := false }
def FnCountCutSaid : Prop := fnCountCutRow.holds Try.pinned (OpenSpec.ofChange fnCountCutSpec)

/-- ITS FALSE NEIGHBOUR: 'it returns false'. Refute it at one input. -/
def fnCountCutWrong : ChangeSpec := { name := "fnCountCut", fn := fun _ => fun
  | [d] => { results := [.lit (.bool false)], args := [d] }
  | _ => none }
def FnCountCutWrongFalsely : Prop := fnCountCutRow.holds Try.pinned (OpenSpec.ofChange fnCountCutWrong)

/-- 'laws.FnExactCountPlain': WHATEVER THE INPUT: true; the input reads as it did. -/
def fnExactCountPlainSpec : ChangeSpec := { name := "fnExactCountPlain", fn := fun _ => fun
  | [d1, d2] => { results := [.lit (.bool true)], args := [d1, d2] }
  | _ => none }
def fnExactCountPlainRow : OpenClaim := { program := "ytbpppchkgjcahaa", sum := "2c52b9f042726f799b2535d2932c5d804c7aea3f0ae8304df86bc2e1d5feac91", func := "loop.example/floorrooms/laws.FnExactCountPlain", spec := "fnExactCountPlain", unfollowed := true, recurses := true, apart := false }
def FnExactCountPlainSaid : Prop := fnExactCountPlainRow.holds Try.pinned (OpenSpec.ofChange fnExactCountPlainSpec)

/-- ITS FALSE NEIGHBOUR: 'it returns false'. Refute it at one input. -/
def fnExactCountPlainWrong : ChangeSpec := { name := "fnExactCountPlain", fn := fun _ => fun
  | [d1, d2] => { results := [.lit (.bool false)], args := [d1, d2] }
  | _ => none }
def FnExactCountPlainWrongFalsely : Prop := fnExactCountPlainRow.holds Try.pinned (OpenSpec.ofChange fnExactCountPlainWrong)

/-- 'laws.FnCountPlain': WHATEVER THE INPUT: true; the input reads as it did. -/
def fnCountPlainSpec : ChangeSpec := { name := "fnCountPlain", fn := fun _ => fun
  | [d] => { results := [.lit (.bool true)], args := [d] }
  | _ => none }
def fnCountPlainRow : OpenClaim := { program := "ytbpppchkgjcahaa", sum := "2c52b9f042726f799b2535d2932c5d804c7aea3f0ae8304df86bc2e1d5feac91", func := "loop.example/floorrooms/laws.FnCountPlain", spec := "fnCountPlain", unfollowed := true, recurses := true, apart := false }
def FnCountPlainSaid : Prop := fnCountPlainRow.holds Try.pinned (OpenSpec.ofChange fnCountPlainSpec)

/-- ITS FALSE NEIGHBOUR: 'it returns false'. Refute it at one input. -/
def fnCountPlainWrong : ChangeSpec := { name := "fnCountPlain", fn := fun _ => fun
  | [d] => { results := [.lit (.bool false)], args := [d] }
  | _ => none }
def FnCountPlainWrongFalsely : Prop := fnCountPlainRow.holds Try.pinned (OpenSpec.ofChange fnCountPlainWrong)

/-- 'laws.FnExactTermPlan': WHATEVER THE INPUT: true; the input reads as it did. -/
def fnExactTermPlanSpec : ChangeSpec := { name := "fnExactTermPlan", fn := fun _ => fun
  | [d] => { results := [.lit (.bool true)], args := [d] }
  | _ => none }
def fnExactTermPlanRow : OpenClaim := { program := "ytbpppchkgjcahaa", sum := "2c52b9f042726f799b2535d2932c5d804c7aea3f0ae8304df86bc2e1d5feac91", func := "loop.example/floorrooms/laws.FnExactTermPlan", spec := "fnExactTermPlan", inPlace := ["internal/bytealg.CountString", "internal/bytealg.IndexByteString", "internal/bytealg.IndexString", "internal/abi.NoEscape"], unfollowed := true, recurses := true, named := ["internal/bytealg.MaxLen"], apart := false }
def FnExactTermPlanSaid : Prop := fnExactTermPlanRow.holds Try.pinned (OpenSpec.ofChange fnExactTermPlanSpec)

/-- ITS FALSE NEIGHBOUR: 'it returns false'. Refute it at one input. -/
def fnExactTermPlanWrong : ChangeSpec := { name := "fnExactTermPlan", fn := fun _ => fun
  | [d] => { results := [.lit (.bool false)], args := [d] }
  | _ => none }
def FnExactTermPlanWrongFalsely : Prop := fnExactTermPlanRow.holds Try.pinned (OpenSpec.ofChange fnExactTermPlanWrong)

/-- 'laws.FnTermRooms': WHATEVER THE INPUT: true; the input reads as it did. -/
def fnTermRoomsSpec : ChangeSpec := { name := "fnTermRooms", fn := fun _ => fun
  | [d] => { results := [.lit (.bool true)], args := [d] }
  | _ => none }
def fnTermRoomsRow : OpenClaim := { program := "ytbpppchkgjcahaa", sum := "2c52b9f042726f799b2535d2932c5d804c7aea3f0ae8304df86bc2e1d5feac91", func := "loop.example/floorrooms/laws.FnTermRooms", spec := "fnTermRooms", inPlace := ["internal/bytealg.CountString", "internal/bytealg.IndexByteString", "internal/bytealg.IndexString", "internal/abi.NoEscape"], unfollowed := true, recurses := true, named := ["internal/bytealg.MaxLen"], apart := false }
def FnTermRoomsSaid : Prop := fnTermRoomsRow.holds Try.pinned (OpenSpec.ofChange fnTermRoomsSpec)

/-- ITS FALSE NEIGHBOUR: 'it returns false'. Refute it at one input. -/
def fnTermRoomsWrong : ChangeSpec := { name := "fnTermRooms", fn := fun _ => fun
  | [d] => { results := [.lit (.bool false)], args := [d] }
  | _ => none }
def FnTermRoomsWrongFalsely : Prop := fnTermRoomsRow.holds Try.pinned (OpenSpec.ofChange fnTermRoomsWrong)

/-- 'laws.FnTidy': WHATEVER THE INPUT: true; the input reads as it did. -/
def fnTidySpec : ChangeSpec := { name := "fnTidy", fn := fun _ => fun
  | [d] => { results := [.lit (.bool true)], args := [d] }
  | _ => none }
def fnTidyRow : OpenClaim := { program := "ytbpppchkgjcahaa", sum := "2c52b9f042726f799b2535d2932c5d804c7aea3f0ae8304df86bc2e1d5feac91", func := "loop.example/floorrooms/laws.FnTidy", spec := "fnTidy", inPlace := ["internal/bytealg.CountString", "internal/bytealg.IndexByteString", "internal/bytealg.IndexString", "internal/abi.NoEscape"], unfollowed := true, recurses := true, named := ["internal/bytealg.MaxLen"], apart := false }
def FnTidySaid : Prop := fnTidyRow.holds Try.pinned (OpenSpec.ofChange fnTidySpec)

/-- ITS FALSE NEIGHBOUR: 'it returns false'. Refute it at one input. -/
def fnTidyWrong : ChangeSpec := { name := "fnTidy", fn := fun _ => fun
  | [d] => { results := [.lit (.bool false)], args := [d] }
  | _ => none }
def FnTidyWrongFalsely : Prop := fnTidyRow.holds Try.pinned (OpenSpec.ofChange fnTidyWrong)

/- THE SECOND FORM. 'bulk': how many values and letters a reading holds, each counted each time it is reached (what is shared counts as often as it is met; a slice's spare places count too). A statement '..UptoSaid' is the law's where the arguments, and the package variables that the reading takes, are together of bulk at most 1048576: NARROWER than '..Said'. Prove '..Said' where nothing that the law and all that it calls make is longer than what came in: it says more and counts as full. Else prove '..UptoSaid'. A law counts once. -/
mutual
def uptoBulk {H : Type} : DataW H → Nat
  | .lit (.string bytes) => bytes.length + 1
  | .lit _ => 1
  | .nil => 1
  | .ptr d => uptoBulk d + 1
  | .slice elems spare => uptoBulkAll elems + uptoBulkAll spare + 1
  | .agg parts => uptoBulkAll parts + 1
  | .iface _ d => uptoBulk d + 1
  | .map entries => uptoBulkEntries entries + 1
  | .held _ => 1
def uptoBulkAll {H : Type} : List (DataW H) → Nat
  | [] => 0
  | d :: r => uptoBulk d + uptoBulkAll r
def uptoBulkEntries {H : Type} : List (Lit × DataW H) → Nat
  | [] => 0
  | x :: r => uptoBulkEntry x + uptoBulkEntries r
def uptoBulkEntry {H : Type} : Lit × DataW H → Nat
  | (.string bytes, d) => bytes.length + uptoBulk d + 1
  | (_, d) => uptoBulk d + 1
 end
def uptoSmall : (H : Type) → List (DataW H) → Bool := fun _ ds => decide (uptoBulkAll ds ≤ 1048576)
def OpenSpec.upto (s : _root_.Go.ChangeSpec) : _root_.Go.OpenSpec := { _root_.Go.OpenSpec.ofChange s with cond := some uptoSmall }

/-- 'laws.FnExactTermOf', WHERE WHAT IT READS IS OF BULK AT MOST 1048576: true; the input reads as it did. -/
def fnExactTermOfUptoRow : OpenClaim := { program := "ytbpppchkgjcahaa", sum := "2c52b9f042726f799b2535d2932c5d804c7aea3f0ae8304df86bc2e1d5feac91", func := "loop.example/floorrooms/laws.FnExactTermOf", spec := "fnExactTermOf", inPlace := ["internal/abi.NoEscape"], unfollowed := true, recurses := true, apart := false, narrowed := true }
def FnExactTermOfUptoSaid : Prop := fnExactTermOfUptoRow.holds Try.pinned (OpenSpec.upto fnExactTermOfSpec)

/-- 'laws.FnNearWay', WHERE WHAT IT READS IS OF BULK AT MOST 1048576: true; the input reads as it did. -/
def fnNearWayUptoRow : OpenClaim := { program := "ytbpppchkgjcahaa", sum := "2c52b9f042726f799b2535d2932c5d804c7aea3f0ae8304df86bc2e1d5feac91", func := "loop.example/floorrooms/laws.FnNearWay", spec := "fnNearWay", inPlace := ["internal/abi.NoEscape"], unfollowed := true, recurses := true, apart := false, narrowed := true }
def FnNearWayUptoSaid : Prop := fnNearWayUptoRow.holds Try.pinned (OpenSpec.upto fnNearWaySpec)

/-- 'laws.FnNearFar', WHERE WHAT IT READS IS OF BULK AT MOST 1048576: true; the input reads as it did. -/
def fnNearFarUptoRow : OpenClaim := { program := "ytbpppchkgjcahaa", sum := "2c52b9f042726f799b2535d2932c5d804c7aea3f0ae8304df86bc2e1d5feac91", func := "loop.example/floorrooms/laws.FnNearFar", spec := "fnNearFar", inPlace := ["internal/abi.NoEscape"], unfollowed := true, recurses := true, apart := false, narrowed := true }
def FnNearFarUptoSaid : Prop := fnNearFarUptoRow.holds Try.pinned (OpenSpec.upto fnNearFarSpec)

/-- 'laws.FnNearFirst', WHERE WHAT IT READS IS OF BULK AT MOST 1048576: true; the input reads as it did. -/
def fnNearFirstUptoRow : OpenClaim := { program := "ytbpppchkgjcahaa", sum := "2c52b9f042726f799b2535d2932c5d804c7aea3f0ae8304df86bc2e1d5feac91", func := "loop.example/floorrooms/laws.FnNearFirst", spec := "fnNearFirst", inPlace := ["internal/abi.NoEscape"], unfollowed := true, recurses := true, apart := false, narrowed := true }
def FnNearFirstUptoSaid : Prop := fnNearFirstUptoRow.holds Try.pinned (OpenSpec.upto fnNearFirstSpec)

/-- 'laws.FnNearMany', WHERE WHAT IT READS IS OF BULK AT MOST 1048576: true; the input reads as it did. -/
def fnNearManyUptoRow : OpenClaim := { program := "ytbpppchkgjcahaa", sum := "2c52b9f042726f799b2535d2932c5d804c7aea3f0ae8304df86bc2e1d5feac91", func := "loop.example/floorrooms/laws.FnNearMany", spec := "fnNearMany", inPlace := ["internal/abi.NoEscape"], unfollowed := true, recurses := true, apart := false, narrowed := true }
def FnNearManyUptoSaid : Prop := fnNearManyUptoRow.holds Try.pinned (OpenSpec.upto fnNearManySpec)

/-- 'laws.FnExactCountCut', WHERE WHAT IT READS IS OF BULK AT MOST 1048576: true; the input reads as it did. -/
def fnExactCountCutUptoRow : OpenClaim := { program := "ytbpppchkgjcahaa", sum := "2c52b9f042726f799b2535d2932c5d804c7aea3f0ae8304df86bc2e1d5feac91", func := "loop.example/floorrooms/laws.FnExactCountCut", spec := "fnExactCountCut", unfollowed := true, recurses := true, apart := false, narrowed := true }
def FnExactCountCutUptoSaid : Prop := fnExactCountCutUptoRow.holds Try.pinned (OpenSpec.upto fnExactCountCutSpec)

/-- 'laws.FnCountCut', WHERE WHAT IT READS IS OF BULK AT MOST 1048576: true; the input reads as it did. -/
def fnCountCutUptoRow : OpenClaim := { program := "ytbpppchkgjcahaa", sum := "2c52b9f042726f799b2535d2932c5d804c7aea3f0ae8304df86bc2e1d5feac91", func := "loop.example/floorrooms/laws.FnCountCut", spec := "fnCountCut", unfollowed := true, recurses := true, apart := false, narrowed := true }
def FnCountCutUptoSaid : Prop := fnCountCutUptoRow.holds Try.pinned (OpenSpec.upto fnCountCutSpec)

/-- 'laws.FnExactCountPlain', WHERE WHAT IT READS IS OF BULK AT MOST 1048576: true; the input reads as it did. -/
def fnExactCountPlainUptoRow : OpenClaim := { program := "ytbpppchkgjcahaa", sum := "2c52b9f042726f799b2535d2932c5d804c7aea3f0ae8304df86bc2e1d5feac91", func := "loop.example/floorrooms/laws.FnExactCountPlain", spec := "fnExactCountPlain", unfollowed := true, recurses := true, apart := false, narrowed := true }
def FnExactCountPlainUptoSaid : Prop := fnExactCountPlainUptoRow.holds Try.pinned (OpenSpec.upto fnExactCountPlainSpec)

/-- 'laws.FnCountPlain', WHERE WHAT IT READS IS OF BULK AT MOST 1048576: true; the input reads as it did. -/
def fnCountPlainUptoRow : OpenClaim := { program := "ytbpppchkgjcahaa", sum := "2c52b9f042726f799b2535d2932c5d804c7aea3f0ae8304df86bc2e1d5feac91", func := "loop.example/floorrooms/laws.FnCountPlain", spec := "fnCountPlain", unfollowed := true, recurses := true, apart := false, narrowed := true }
def FnCountPlainUptoSaid : Prop := fnCountPlainUptoRow.holds Try.pinned (OpenSpec.upto fnCountPlainSpec)

/-- 'laws.FnExactTermPlan', WHERE WHAT IT READS IS OF BULK AT MOST 1048576: true; the input reads as it did. -/
def fnExactTermPlanUptoRow : OpenClaim := { program := "ytbpppchkgjcahaa", sum := "2c52b9f042726f799b2535d2932c5d804c7aea3f0ae8304df86bc2e1d5feac91", func := "loop.example/floorrooms/laws.FnExactTermPlan", spec := "fnExactTermPlan", inPlace := ["internal/bytealg.CountString", "internal/bytealg.IndexByteString", "internal/bytealg.IndexString", "internal/abi.NoEscape"], unfollowed := true, recurses := true, named := ["internal/bytealg.MaxLen"], apart := false, narrowed := true }
def FnExactTermPlanUptoSaid : Prop := fnExactTermPlanUptoRow.holds Try.pinned (OpenSpec.upto fnExactTermPlanSpec)

/-- 'laws.FnTermRooms', WHERE WHAT IT READS IS OF BULK AT MOST 1048576: true; the input reads as it did. -/
def fnTermRoomsUptoRow : OpenClaim := { program := "ytbpppchkgjcahaa", sum := "2c52b9f042726f799b2535d2932c5d804c7aea3f0ae8304df86bc2e1d5feac91", func := "loop.example/floorrooms/laws.FnTermRooms", spec := "fnTermRooms", inPlace := ["internal/bytealg.CountString", "internal/bytealg.IndexByteString", "internal/bytealg.IndexString", "internal/abi.NoEscape"], unfollowed := true, recurses := true, named := ["internal/bytealg.MaxLen"], apart := false, narrowed := true }
def FnTermRoomsUptoSaid : Prop := fnTermRoomsUptoRow.holds Try.pinned (OpenSpec.upto fnTermRoomsSpec)

/-- 'laws.FnTidy', WHERE WHAT IT READS IS OF BULK AT MOST 1048576: true; the input reads as it did. -/
def fnTidyUptoRow : OpenClaim := { program := "ytbpppchkgjcahaa", sum := "2c52b9f042726f799b2535d2932c5d804c7aea3f0ae8304df86bc2e1d5feac91", func := "loop.example/floorrooms/laws.FnTidy", spec := "fnTidy", inPlace := ["internal/bytealg.CountString", "internal/bytealg.IndexByteString", "internal/bytealg.IndexString", "internal/abi.NoEscape"], unfollowed := true, recurses := true, named := ["internal/bytealg.MaxLen"], apart := false, narrowed := true }
def FnTidyUptoSaid : Prop := fnTidyUptoRow.holds Try.pinned (OpenSpec.upto fnTidySpec)

end Rows
end Go.Proofs.Ytbpppchkgjcahaa
