/- Texts of this claim's, joined by a program: NDeepP, NRoundReg, NDeep. -/
import Derived.Test.YtdhnjecbdclmaaaKNWallManyM
import Derived.Test.YtdhnjecbdclmaaaKNIoM
import Derived.Deep.RegionHeld3
import Derived.IntWalk
section
namespace Go.Proofs.Ytdhnjecbdclmaaa
open Go.RowKit Go.Shelf Go.Proofs.YtdhnjecbdclmaaaW.PrintWords Go.Proofs.YtdhnjecbdclmaaaW.PrintMore
set_option linter.unusedVariables false
end Go.Proofs.Ytdhnjecbdclmaaa
end
section
namespace Go.Proofs.Ytdhnjecbdclmaaa
open Go.RowKit
set_option linter.unusedVariables false
theorem Wide.rows {F : Fence} {n : Nat} {P : Program} {row : String} {args : Array Value} {w : World} {R : Value → World → Prop} (h : Wide F) (c : Rows P row args w R) : RowsIn F n P row args w R := by
  rcases h with rfl | ⟨l, rfl⟩
  · exact fun c1 cs _ => let ⟨v, w', r, s⟩ := c c1 cs; ⟨v, w', r, stepsIn_wide.2 s⟩
  · exact fun c1 cs _ => let ⟨v, w', r, s⟩ := c c1 cs; ⟨v, w', r, stepsIn_wide.2 s⟩
section
variable {F : Fence} {n : Nat} {P : Program} {ops : Array Oper} {md : Region.Mode} {Q : Exit → Act → World → Prop}
end
end Go.Proofs.Ytdhnjecbdclmaaa
end
section
namespace Go.Proofs.Ytdhnjecbdclmaaa
open Go.RowKit Go.Shelf Go.Proofs.YtdhnjecbdclmaaaW.PrintWords Go.Proofs.YtdhnjecbdclmaaaW.PrintMore
attribute [local go_sem] Oper.semAt_some
attribute [local go_sem] max2_int min2_int max_two min_two max_three min_three max_four min_four
set_option linter.unusedVariables false
set_option linter.unusedSimpArgs false
end Go.Proofs.Ytdhnjecbdclmaaa
end
