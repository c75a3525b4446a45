-- Written by a program of this session's (gprint, out of Lean's own print of the translation); checked by Lean.
import Derived.Test.YtiehiockjlhbcaaKL2x0
import Derived.Test.YtiehiockjlhbcaaKL2x1
namespace Go.Proofs.Ytiehiockjlhbcaa.L2
open Go.RowKit Go.Proofs.YtiehiockjlhbcaaW.PrintWords Go.Proofs.YtiehiockjlhbcaaW.PrintLast Go.Proofs.YtiehiockjlhbcaaW.PrintMore
attribute [local go_sem] max2_int min2_int max_two min_two max_three min_three max_four min_four   -- for this text's walks alone
set_option linter.unusedVariables false
set_option linter.unusedSimpArgs false

end Go.Proofs.Ytiehiockjlhbcaa.L2
