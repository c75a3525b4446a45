-- Written by a program of this session's (gprint, out of Lean's own print of the translation); checked by Lean.
import Derived.Test.YtbpppchkgjcahaaKFL7x0
namespace Go.Proofs.Ytbpppchkgjcahaa.L7
open Go.RowKit Go.Proofs.YtbpppchkgjcahaaW.PrintWords Go.Proofs.YtbpppchkgjcahaaW.PrintLast Go.Proofs.YtbpppchkgjcahaaW.PrintMore
attribute [local go_sem] max2_int min2_int max_two min_two max_three min_three max_four min_four
set_option linter.unusedVariables false
set_option linter.unusedSimpArgs false
end Go.Proofs.Ytbpppchkgjcahaa.L7
