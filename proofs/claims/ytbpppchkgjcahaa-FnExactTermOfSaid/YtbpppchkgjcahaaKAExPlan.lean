/- The reference's PlanIn under the name that a printed text takes. -/
import Derived.Test.YtbpppchkgjcahaaKASpecIn
namespace Go.Proofs.Ytbpppchkgjcahaa
open Go.RowKit Go.Shelf Go.Proofs.YtbpppchkgjcahaaW.PrintWords Go.Proofs.YtbpppchkgjcahaaW.PrintMore
set_option linter.unusedVariables false
def SmallP (l0 : List ByteArray) : Prop := l0.length ≤ 2000000 ∧ ∀ s ∈ l0, s.size ≤ 2000000
instance (l0 : List ByteArray) : Decidable (SmallP l0) := inferInstanceAs (Decidable (_ ∧ _))
def spec_PlanIn.f (l0 : List ByteArray) : Option Bool := if SmallP l0 then some (planG l0) else none
theorem spec_PlanIn.calls (A0 : Option Addr) (c0 : Nat) (l0 : List ByteArray) (r : Bool) (w : World) (hr0 : Kd.C Kd.string w A0 l0.length l0) (hc0 : l0.length ≤ c0) (h : spec_PlanIn.f l0 = some r) :
    Calls Try.prog 83 #[.slice A0 l0.length c0] w fun e w' => e = .returned (.bool r) ∧ Below w.heap.size w w' := by
  unfold spec_PlanIn.f at h
  split at h
  · rename_i hb
    injection h with h
    obtain ⟨k, hk⟩ := planIn_f l0 hb.1 hb.2
    rw [h] at hk
    exact L2.spec_PlanIn.calls k A0 c0 l0 r w hr0 hc0 hk
  · cases h
end Go.Proofs.Ytbpppchkgjcahaa
