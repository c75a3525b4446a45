/- Texts of this claim's, joined by a program: NSpecWays, NSpecDeep, NCutDeep, NTextLen, NDeepQ, NDeepF, NDepTight. -/
import Derived.Test.YtdhnjecbdclmaaaKNL3x2
import Derived.Test.YtdhnjecbdclmaaaKNFloorRM
import Derived.Test.YtdhnjecbdclmaaaKNWallManyM
import Derived.Test.YtdhnjecbdclmaaaKNDeepPM
import Derived.Test.YtdhnjecbdclmaaaKNRemade
section
namespace Go.Proofs.Ytdhnjecbdclmaaa
open Go.RowKit Go.Shelf Go.Proofs.YtdhnjecbdclmaaaW.PrintWords Go.Proofs.YtdhnjecbdclmaaaW.PrintMore L3
set_option linter.unusedVariables false
end Go.Proofs.Ytdhnjecbdclmaaa
end
section
namespace Go.Proofs.Ytdhnjecbdclmaaa
open Go.RowKit Go.Shelf Go.Proofs.YtdhnjecbdclmaaaW.PrintWords Go.Proofs.YtdhnjecbdclmaaaW.PrintMore L3
set_option linter.unusedVariables false
end Go.Proofs.Ytdhnjecbdclmaaa
end
section
namespace Go.Proofs.Ytdhnjecbdclmaaa
open Go.RowKit Go.Shelf Go.Proofs.YtdhnjecbdclmaaaW.PrintWords Go.Proofs.YtdhnjecbdclmaaaW.PrintMore
set_option linter.unusedVariables false
end Go.Proofs.Ytdhnjecbdclmaaa
end
section
namespace Go.Proofs.Ytdhnjecbdclmaaa
open Go.RowKit Go.Shelf Go.Proofs.YtdhnjecbdclmaaaW.PrintWords Go.Proofs.YtdhnjecbdclmaaaW.PrintMore
set_option linter.unusedVariables false
set_option linter.unusedSimpArgs false
end Go.Proofs.Ytdhnjecbdclmaaa
end
section
namespace Go.Proofs.Ytdhnjecbdclmaaa
open Go.RowKit Go.Shelf Go.Proofs.YtdhnjecbdclmaaaW.PrintWords Go.Proofs.YtdhnjecbdclmaaaW.PrintMore
set_option linter.unusedVariables false
set_option linter.unusedSimpArgs false
section
variable {cl cl' : Nat → Nat → Int} {h wd : Nat}
end
end Go.Proofs.Ytdhnjecbdclmaaa
end
section
namespace Go.Proofs.Ytdhnjecbdclmaaa
open Go.RowKit Go.Shelf Go.Proofs.YtdhnjecbdclmaaaW.PrintWords Go.Proofs.YtdhnjecbdclmaaaW.PrintMore
set_option linter.unusedVariables false
set_option linter.unusedSimpArgs false
section
variable {cl cl' : Nat → Nat → Int} {h wd : Nat}
end
end Go.Proofs.Ytdhnjecbdclmaaa
end
section
namespace Go.Proofs.Ytdhnjecbdclmaaa
open Go.RowKit Go.Shelf Go.Proofs.YtdhnjecbdclmaaaW.PrintWords Go.Proofs.YtdhnjecbdclmaaaW.PrintMore
set_option linter.unusedVariables false
set_option linter.unusedSimpArgs false
theorem step_mono {φ : Nat → Nat} (h : ∀ i, φ (i + 1) = φ i ∨ φ (i + 1) = φ i + 1) {a b : Nat} (hab : a ≤ b) : φ a ≤ φ b := by
  induction b with
  | zero => rw [show a = 0 by omega]; exact Nat.le_refl _
  | succ b ih =>
    by_cases e : a = b + 1
    · rw [e]; exact Nat.le_refl _
    · have := ih (by omega); have := h b; omega
theorem step_hits {φ : Nat → Nat} (h : ∀ i, φ (i + 1) = φ i ∨ φ (i + 1) = φ i + 1) {a n : Nat} : ∀ {x : Nat}, φ a ≤ x → x ≤ φ (a + n) → ∃ i, a ≤ i ∧ i ≤ a + n ∧ φ i = x := by
  induction n with
  | zero => intro x h1 h2; exact ⟨a, Nat.le_refl _, Nat.le_refl _, by rw [Nat.add_zero] at h2; omega⟩
  | succ n ih =>
    intro x h1 h2
    by_cases e : x ≤ φ (a + n)
    · obtain ⟨i, g1, g2, g3⟩ := ih h1 e; exact ⟨i, g1, by omega, g3⟩
    · have := h (a + n)
      rw [← Nat.add_assoc] at h2
      exact ⟨a + n + 1, by omega, by omega, by omega⟩
end Go.Proofs.Ytdhnjecbdclmaaa
end
