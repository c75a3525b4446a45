/- Program-independent: a region that draws its order, inside a round, by the laws that stand outside of fences. Conditions: none beyond those in the statements. -/
import Derived.Test.YtiehiockjlhbcaaKBase
import Derived.Deep.RegionHeld3
namespace Go.Proofs.Ytiehiockjlhbcaa
open Go.RowKit
set_option linter.unusedVariables false

theorem Wide.rows {F : Fence} {n : Nat} {P : Program} {row : String} {args : Array Value} {w : World} {R : Value → World → Prop} (h : Wide F) (c : Rows P row args w R) : RowsIn F n P row args w R := by
  rcases h with rfl | ⟨l, rfl⟩
  · exact fun c1 cs _ => let ⟨v, w', r, s⟩ := c c1 cs; ⟨v, w', r, stepsIn_wide.2 s⟩
  · exact fun c1 cs _ => let ⟨v, w', r, s⟩ := c c1 cs; ⟨v, w', r, stepsIn_wide.2 s⟩
section
variable {F : Fence} {n : Nat} {P : Program} {ops : Array Oper} {md : Region.Mode} {Q : Exit → Act → World → Prop}
end
end Go.Proofs.Ytiehiockjlhbcaa
