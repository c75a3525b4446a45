/- The two ProofFairIs under the names that a printed law takes. -/
import Derived.Test.YtlhbdeebkkpkmaaFairIs
namespace Go.Proofs.Ytlhbdeebkkpkmaa
open Go.RowKit Go.Shelf Go.Proofs.YtlhbdeebkkpkmaaW.PrintWords Go.Proofs.YtlhbdeebkkpkmaaW.PrintMore
set_option linter.unusedVariables false
def impl_ProofFairIs.f (l0 : List Int) (a1 : ByteArray) : Option Bool := if l0.length ≤ 1000000000 ∧ a1.size ≤ 1000000000 then some (fairIsB l0 a1) else none
theorem impl_ProofFairIs.calls (A0 : Option Addr) (c0 : Nat) (l0 : List Int) (a1 : ByteArray) (r : Bool) (w : World) (hr0 : Kd.C (Kd.int .i64) w A0 l0.length l0) (hc0 : l0.length ≤ c0) (h : impl_ProofFairIs.f l0 a1 = some r) :
    Calls Try.prog 17 #[.slice A0 l0.length c0, .string a1] w fun e w' => e = .returned (.bool r) ∧ Below w.heap.size w w' := by
  unfold impl_ProofFairIs.f at h
  split at h
  · rename_i hb; injection h with h; subst h; exact fairIs_any A0 c0 l0 a1 hb.1 w hr0 hc0
  · cases h
def spec_ProofFairIs.f (l0 : List Int) (a1 : ByteArray) : Option Bool := if l0.length ≤ 1000000000 ∧ a1.size ≤ 1000000000 then some (fairIsB l0 a1) else none
theorem spec_ProofFairIs.calls (A0 : Option Addr) (c0 : Nat) (l0 : List Int) (a1 : ByteArray) (r : Bool) (w : World) (hr0 : Kd.C (Kd.int .i64) w A0 l0.length l0) (hc0 : l0.length ≤ c0) (h : spec_ProofFairIs.f l0 a1 = some r) :
    Calls Try.prog 16 #[.slice A0 l0.length c0, .string a1] w fun e w' => e = .returned (.bool r) ∧ Below w.heap.size w w' := by
  unfold spec_ProofFairIs.f at h
  split at h
  · rename_i hb; injection h with h; subst h; exact specFairIs_any A0 c0 l0 a1 hb.1 hb.2 w hr0 hc0
  · cases h
end Go.Proofs.Ytlhbdeebkkpkmaa
