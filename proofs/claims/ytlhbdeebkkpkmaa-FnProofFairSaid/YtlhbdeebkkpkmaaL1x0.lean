-- Written by a program of this session's (gprint, out of Lean's own print of the translation); checked by Lean.
import Derived.Test.YtlhbdeebkkpkmaaProg
import Derived.Below
import Derived.Deep.Draws
import Derived.Deep.AppendLies
import Derived.Maps.AppendAt
import Derived.OwnWalk
import Derived.Laws.BytesArg
import Derived.Laws.MakeOwn
import Derived.Laws.OwnMore
import Derived.Deep.OwnRows
import Derived.Tactics
import Derived.Lib.ConvBytes
import Derived.Laws.Slices
import Derived.WalkKit
import Derived.KernelRfl
import Derived.RowKit3
import Derived.Deep.LoopGhost
import Derived.Deep.QuietTactic
import Derived.BigQuiet
import Derived.WideLaws
import Derived.Deep.DeepCutAuto
import Derived.Deep.CutBlock
import Derived.Deep.RegionHeld3
import Derived.Laws.Rows
import Derived.Lib.AppendStr
import Derived.ArgAppend
import Derived.Laws.IdiomCopy
import Derived.OrdersHeld
import Derived.Laws.BitsLemmas
import Derived.RowKit
import Derived.Test.YtlhbdeebkkpkmaaWWords
import Derived.Test.YtlhbdeebkkpkmaaWLast
import Derived.Test.YtlhbdeebkkpkmaaWTab
import Derived.Test.YtlhbdeebkkpkmaaWFour
import Derived.Test.YtlhbdeebkkpkmaaWQPut
import Derived.Test.YtlhbdeebkkpkmaaWApart
import Derived.Test.YtlhbdeebkkpkmaaWArr
import Derived.Test.YtlhbdeebkkpkmaaWZeros
import Derived.Test.YtlhbdeebkkpkmaaWFoot
import Derived.Test.YtlhbdeebkkpkmaaWKept
import Derived.Test.YtlhbdeebkkpkmaaWShare
import Derived.Test.YtlhbdeebkkpkmaaWN
import Derived.Test.YtlhbdeebkkpkmaaWFootNe
import Derived.Test.YtlhbdeebkkpkmaaWAt
import Derived.Test.YtlhbdeebkkpkmaaWEqStruct
import Derived.Test.YtlhbdeebkkpkmaaWRepsOne
import Derived.Test.YtlhbdeebkkpkmaaWInv
import Derived.Test.YtlhbdeebkkpkmaaWInvWords
import Derived.Test.YtlhbdeebkkpkmaaWGuard
import Derived.Test.YtlhbdeebkkpkmaaWNEv
import Derived.Test.YtlhbdeebkkpkmaaWMore
namespace Go.Proofs.Ytlhbdeebkkpkmaa.L1
open Go.RowKit Go.Proofs.YtlhbdeebkkpkmaaW.PrintWords Go.Proofs.YtlhbdeebkkpkmaaW.PrintLast Go.Proofs.YtlhbdeebkkpkmaaW.PrintMore
attribute [local go_sem] max2_int min2_int max_two min_two max_three min_three max_four min_four   -- for this text's walks alone
set_option linter.unusedVariables false
set_option linter.unusedSimpArgs false



def errW : Option Int → Value
  | none => .nilIface
  | some c => .iface 0 (.int .i64 c)
theorem errW_none : errW none = .nilIface := rfl
theorem errW_some (c : Int) : errW (some c) = .iface 0 (.int .i64 c) := rfl

theorem info3 : (Try.prog.info? 3).map (fun i => (i.zero, i.size, i.bytes)) = some (some (.int .i64 0), 1, 8) := by kernel_rfl
theorem info5 : (Try.prog.info? 5).map (fun i => (i.zero, i.size, i.bytes)) = some (some (.int .u8 0), 1, 1) := by kernel_rfl
-- the values' own types

end Go.Proofs.Ytlhbdeebkkpkmaa.L1
