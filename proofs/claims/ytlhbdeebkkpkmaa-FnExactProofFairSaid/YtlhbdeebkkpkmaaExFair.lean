/- The two ProofFair under the names that a printed law takes. -/
import Derived.Test.YtlhbdeebkkpkmaaProofFair
namespace Go.Proofs.Ytlhbdeebkkpkmaa
open Go.RowKit Go.Shelf Go.Proofs.YtlhbdeebkkpkmaaW.PrintWords Go.Proofs.YtlhbdeebkkpkmaaW.PrintMore
set_option linter.unusedVariables false
def impl_ProofFair.f (l0 : List Int) : Option (ByteArray × Bool) := if l0.length ≤ 1000000000 then some (fairP l0) else none
theorem impl_ProofFair.calls (A0 : Option Addr) (c0 : Nat) (l0 : List Int) (r1 : ByteArray) (r2 : Bool) (w : World) (hr0 : Kd.C (Kd.int .i64) w A0 l0.length l0) (hc0 : l0.length ≤ c0) (h : impl_ProofFair.f l0 = some (r1, r2)) :
    Calls Try.prog 24 #[.slice A0 l0.length c0] w fun e w' => e = .returned (.tuple #[.string r1, .bool r2]) ∧ Below w.heap.size w w' := by
  unfold impl_ProofFair.f at h
  split at h
  · rename_i hb; injection h with h; have := proofFair_any A0 c0 l0 hb w hr0 hc0; rw [h] at this; exact this
  · cases h
def spec_ProofFair.f (l0 : List Int) : Option (ByteArray × Bool) := if l0.length ≤ 1000000000 then some (fairP l0) else none
theorem spec_ProofFair.calls (A0 : Option Addr) (c0 : Nat) (l0 : List Int) (r1 : ByteArray) (r2 : Bool) (w : World) (hr0 : Kd.C (Kd.int .i64) w A0 l0.length l0) (hc0 : l0.length ≤ c0) (h : spec_ProofFair.f l0 = some (r1, r2)) :
    Calls Try.prog 23 #[.slice A0 l0.length c0] w fun e w' => e = .returned (.tuple #[.string r1, .bool r2]) ∧ Below w.heap.size w w' := by
  unfold spec_ProofFair.f at h
  split at h
  · rename_i hb; injection h with h; have := specFair_any A0 c0 l0 hb w hr0 hc0; rw [h] at this; exact this
  · cases h
end Go.Proofs.Ytlhbdeebkkpkmaa
