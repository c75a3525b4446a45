-- Written by a program of this session's (gprint, out of Lean's own print of the translation); checked by Lean.
import Derived.Test.YtlhbdeebkkpkmaaL1x0
import Derived.Test.YtlhbdeebkkpkmaaL1x1
namespace Go.Proofs.Ytlhbdeebkkpkmaa.L1
open Go.RowKit Go.Proofs.YtlhbdeebkkpkmaaW.PrintWords Go.Proofs.YtlhbdeebkkpkmaaW.PrintLast Go.Proofs.YtlhbdeebkkpkmaaW.PrintMore
attribute [local go_sem] max2_int min2_int max_two min_two max_three min_three max_four min_four   -- for this text's walks alone
set_option linter.unusedVariables false
set_option linter.unusedSimpArgs false

end Go.Proofs.Ytlhbdeebkkpkmaa.L1
