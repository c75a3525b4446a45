/-
  No cell of these rows narrows 'for every input' (looked for: loops, veiled, ifaces, maps, wideKeys, modest, calm, conditions, laid).
  DERIVED. THE GIVEN ROWS OF THIS SEAT. 9 by the template 'for every input the law returns true; each argument reads behind the call as it read before'; 0 by the template 'total and deterministic' (their statements: YtlhbdeebkkpkmaaTotals.lean).
  GIVEN WITH THE SEED: the statements are not yours to turn. If you find one false, say at which input.
  Laid BY PROGRAM, IN A SANDBOX (cutbox-rows.mjs): the forced cells as the released guide's own fill.sh prints them over the translation 7dcf8b08ba88129b… (all of the seat's roots in one cut). By AI agents, Wed Nov 11 2026. No macro, syntax, notation, axiom, sorry.
-/
import Derived.Test.YtlhbdeebkkpkmaaChecked
import GoSem.Claim
import GoSem.ClaimJoined
import GoSem.ClaimMapViews
import Derived.JoinedTies
import Derived.KernelRfl
namespace Go.Proofs.Ytlhbdeebkkpkmaa
/- THE CELL 'sum', in the pinned program and in every row, IS THE sha256 OF THE DUMP (.gsa) THAT YtlhbdeebkkpkmaaProg.lean LOADS. Nothing in Lean hashes anything: it is a label: what it is worth is what the hold of that sum in a sandbox is worth. -/
noncomputable def Try.pinned : Pinned := { name := "ytlhbdeebkkpkmaa", sum := "7dcf8b08ba88129b0aff14358a0e7b44a079bab8da55c109e591c84c24198327", checked := Try.checked }
namespace Rows
def none {H : Type} : Left H := { results := [], args := [] }

/-- 'laws.FnExactProofLooseIs': WHATEVER THE INPUT: true; the input reads as it did. -/
def fnExactProofLooseIsSpec : ChangeSpec := { name := "fnExactProofLooseIs", fn := fun _ => fun
  | [d1, d2] => { results := [.lit (.bool true)], args := [d1, d2] }
  | _ => none }
def fnExactProofLooseIsRow : OpenClaim := { program := "ytlhbdeebkkpkmaa", sum := "7dcf8b08ba88129b0aff14358a0e7b44a079bab8da55c109e591c84c24198327", func := "loop.example/floorrooms/laws.FnExactProofLooseIs", spec := "fnExactProofLooseIs", apart := false }
def FnExactProofLooseIsSaid : Prop := fnExactProofLooseIsRow.holds Try.pinned (OpenSpec.ofChange fnExactProofLooseIsSpec)

/-- ITS FALSE NEIGHBOUR: 'it returns false'. Refute it at one input. -/
def fnExactProofLooseIsWrong : ChangeSpec := { name := "fnExactProofLooseIs", fn := fun _ => fun
  | [d1, d2] => { results := [.lit (.bool false)], args := [d1, d2] }
  | _ => none }
def FnExactProofLooseIsWrongFalsely : Prop := fnExactProofLooseIsRow.holds Try.pinned (OpenSpec.ofChange fnExactProofLooseIsWrong)

/-- 'laws.FnExactProofFairIs': WHATEVER THE INPUT: true; the input reads as it did. -/
def fnExactProofFairIsSpec : ChangeSpec := { name := "fnExactProofFairIs", fn := fun _ => fun
  | [d1, d2] => { results := [.lit (.bool true)], args := [d1, d2] }
  | _ => none }
def fnExactProofFairIsRow : OpenClaim := { program := "ytlhbdeebkkpkmaa", sum := "7dcf8b08ba88129b0aff14358a0e7b44a079bab8da55c109e591c84c24198327", func := "loop.example/floorrooms/laws.FnExactProofFairIs", spec := "fnExactProofFairIs", apart := false }
def FnExactProofFairIsSaid : Prop := fnExactProofFairIsRow.holds Try.pinned (OpenSpec.ofChange fnExactProofFairIsSpec)

/-- ITS FALSE NEIGHBOUR: 'it returns false'. Refute it at one input. -/
def fnExactProofFairIsWrong : ChangeSpec := { name := "fnExactProofFairIs", fn := fun _ => fun
  | [d1, d2] => { results := [.lit (.bool false)], args := [d1, d2] }
  | _ => none }
def FnExactProofFairIsWrongFalsely : Prop := fnExactProofFairIsRow.holds Try.pinned (OpenSpec.ofChange fnExactProofFairIsWrong)

/-- 'laws.FnExactProofLoose': WHATEVER THE INPUT: true; the input reads as it did. -/
def fnExactProofLooseSpec : ChangeSpec := { name := "fnExactProofLoose", fn := fun _ => fun
  | [d] => { results := [.lit (.bool true)], args := [d] }
  | _ => none }
def fnExactProofLooseRow : OpenClaim := { program := "ytlhbdeebkkpkmaa", sum := "7dcf8b08ba88129b0aff14358a0e7b44a079bab8da55c109e591c84c24198327", func := "loop.example/floorrooms/laws.FnExactProofLoose", spec := "fnExactProofLoose", inPlace := ["internal/abi.NoEscape"], unfollowed := true, recurses := true, apart := false }
def FnExactProofLooseSaid : Prop := fnExactProofLooseRow.holds Try.pinned (OpenSpec.ofChange fnExactProofLooseSpec)

/-- ITS FALSE NEIGHBOUR: 'it returns false'. Refute it at one input. -/
def fnExactProofLooseWrong : ChangeSpec := { name := "fnExactProofLoose", fn := fun _ => fun
  | [d] => { results := [.lit (.bool false)], args := [d] }
  | _ => none }
def FnExactProofLooseWrongFalsely : Prop := fnExactProofLooseRow.holds Try.pinned (OpenSpec.ofChange fnExactProofLooseWrong)

/-- 'laws.FnLooseIs': WHATEVER THE INPUT: true; the input reads as it did. -/
def fnLooseIsSpec : ChangeSpec := { name := "fnLooseIs", fn := fun _ => fun
  | [d] => { results := [.lit (.bool true)], args := [d] }
  | _ => none }
def fnLooseIsRow : OpenClaim := { program := "ytlhbdeebkkpkmaa", sum := "7dcf8b08ba88129b0aff14358a0e7b44a079bab8da55c109e591c84c24198327", func := "loop.example/floorrooms/laws.FnLooseIs", spec := "fnLooseIs", unfollowed := true, recurses := true, apart := false }
def FnLooseIsSaid : Prop := fnLooseIsRow.holds Try.pinned (OpenSpec.ofChange fnLooseIsSpec)

/-- ITS FALSE NEIGHBOUR: 'it returns false'. Refute it at one input. -/
def fnLooseIsWrong : ChangeSpec := { name := "fnLooseIs", fn := fun _ => fun
  | [d] => { results := [.lit (.bool false)], args := [d] }
  | _ => none }
def FnLooseIsWrongFalsely : Prop := fnLooseIsRow.holds Try.pinned (OpenSpec.ofChange fnLooseIsWrong)

/-- 'laws.FnExactProofFair': WHATEVER THE INPUT: true; the input reads as it did. -/
def fnExactProofFairSpec : ChangeSpec := { name := "fnExactProofFair", fn := fun _ => fun
  | [d] => { results := [.lit (.bool true)], args := [d] }
  | _ => none }
def fnExactProofFairRow : OpenClaim := { program := "ytlhbdeebkkpkmaa", sum := "7dcf8b08ba88129b0aff14358a0e7b44a079bab8da55c109e591c84c24198327", func := "loop.example/floorrooms/laws.FnExactProofFair", spec := "fnExactProofFair", inPlace := ["internal/abi.NoEscape"], unfollowed := true, recurses := true, apart := false }
def FnExactProofFairSaid : Prop := fnExactProofFairRow.holds Try.pinned (OpenSpec.ofChange fnExactProofFairSpec)

/-- ITS FALSE NEIGHBOUR: 'it returns false'. Refute it at one input. -/
def fnExactProofFairWrong : ChangeSpec := { name := "fnExactProofFair", fn := fun _ => fun
  | [d] => { results := [.lit (.bool false)], args := [d] }
  | _ => none }
def FnExactProofFairWrongFalsely : Prop := fnExactProofFairRow.holds Try.pinned (OpenSpec.ofChange fnExactProofFairWrong)

/-- 'laws.FnFairIs': WHATEVER THE INPUT: true; the input reads as it did. -/
def fnFairIsSpec : ChangeSpec := { name := "fnFairIs", fn := fun _ => fun
  | [d] => { results := [.lit (.bool true)], args := [d] }
  | _ => none }
def fnFairIsRow : OpenClaim := { program := "ytlhbdeebkkpkmaa", sum := "7dcf8b08ba88129b0aff14358a0e7b44a079bab8da55c109e591c84c24198327", func := "loop.example/floorrooms/laws.FnFairIs", spec := "fnFairIs", unfollowed := true, recurses := true, apart := false }
def FnFairIsSaid : Prop := fnFairIsRow.holds Try.pinned (OpenSpec.ofChange fnFairIsSpec)

/-- ITS FALSE NEIGHBOUR: 'it returns false'. Refute it at one input. -/
def fnFairIsWrong : ChangeSpec := { name := "fnFairIs", fn := fun _ => fun
  | [d] => { results := [.lit (.bool false)], args := [d] }
  | _ => none }
def FnFairIsWrongFalsely : Prop := fnFairIsRow.holds Try.pinned (OpenSpec.ofChange fnFairIsWrong)

/-- 'laws.FnProofLoose': WHATEVER THE INPUT: true; the input reads as it did. -/
def fnProofLooseSpec : ChangeSpec := { name := "fnProofLoose", fn := fun _ => fun
  | [d] => { results := [.lit (.bool true)], args := [d] }
  | _ => none }
def fnProofLooseRow : OpenClaim := { program := "ytlhbdeebkkpkmaa", sum := "7dcf8b08ba88129b0aff14358a0e7b44a079bab8da55c109e591c84c24198327", func := "loop.example/floorrooms/laws.FnProofLoose", spec := "fnProofLoose", inPlace := ["internal/abi.NoEscape"], unfollowed := true, recurses := true, apart := false }
def FnProofLooseSaid : Prop := fnProofLooseRow.holds Try.pinned (OpenSpec.ofChange fnProofLooseSpec)

/-- ITS FALSE NEIGHBOUR: 'it returns false'. Refute it at one input. -/
def fnProofLooseWrong : ChangeSpec := { name := "fnProofLoose", fn := fun _ => fun
  | [d] => { results := [.lit (.bool false)], args := [d] }
  | _ => none }
def FnProofLooseWrongFalsely : Prop := fnProofLooseRow.holds Try.pinned (OpenSpec.ofChange fnProofLooseWrong)

/-- 'laws.FnProofEither': WHATEVER THE INPUT: true; the input reads as it did. -/
def fnProofEitherSpec : ChangeSpec := { name := "fnProofEither", fn := fun _ => fun
  | [d] => { results := [.lit (.bool true)], args := [d] }
  | _ => none }
def fnProofEitherRow : OpenClaim := { program := "ytlhbdeebkkpkmaa", sum := "7dcf8b08ba88129b0aff14358a0e7b44a079bab8da55c109e591c84c24198327", func := "loop.example/floorrooms/laws.FnProofEither", spec := "fnProofEither", inPlace := ["internal/abi.NoEscape"], unfollowed := true, recurses := true, apart := false }
def FnProofEitherSaid : Prop := fnProofEitherRow.holds Try.pinned (OpenSpec.ofChange fnProofEitherSpec)

/-- ITS FALSE NEIGHBOUR: 'it returns false'. Refute it at one input. -/
def fnProofEitherWrong : ChangeSpec := { name := "fnProofEither", fn := fun _ => fun
  | [d] => { results := [.lit (.bool false)], args := [d] }
  | _ => none }
def FnProofEitherWrongFalsely : Prop := fnProofEitherRow.holds Try.pinned (OpenSpec.ofChange fnProofEitherWrong)

/-- 'laws.FnProofFair': WHATEVER THE INPUT: true; the input reads as it did. -/
def fnProofFairSpec : ChangeSpec := { name := "fnProofFair", fn := fun _ => fun
  | [d] => { results := [.lit (.bool true)], args := [d] }
  | _ => none }
def fnProofFairRow : OpenClaim := { program := "ytlhbdeebkkpkmaa", sum := "7dcf8b08ba88129b0aff14358a0e7b44a079bab8da55c109e591c84c24198327", func := "loop.example/floorrooms/laws.FnProofFair", spec := "fnProofFair", inPlace := ["internal/abi.NoEscape"], unfollowed := true, recurses := true, apart := false }
def FnProofFairSaid : Prop := fnProofFairRow.holds Try.pinned (OpenSpec.ofChange fnProofFairSpec)

/-- ITS FALSE NEIGHBOUR: 'it returns false'. Refute it at one input. -/
def fnProofFairWrong : ChangeSpec := { name := "fnProofFair", fn := fun _ => fun
  | [d] => { results := [.lit (.bool false)], args := [d] }
  | _ => none }
def FnProofFairWrongFalsely : Prop := fnProofFairRow.holds Try.pinned (OpenSpec.ofChange fnProofFairWrong)

/- THE SECOND FORM. 'bulk': how many values and letters a reading holds, each counted each time it is reached (what is shared counts as often as it is met; a slice's spare places count too). A statement '..UptoSaid' is the law's where the arguments, and the package variables that the reading takes, are together of bulk at most 1048576: NARROWER than '..Said'. Prove '..Said' where nothing that the law and all that it calls make is longer than what came in: it says more and counts as full. Else prove '..UptoSaid'. A law counts once. -/
mutual
def uptoBulk {H : Type} : DataW H → Nat
  | .lit (.string bytes) => bytes.length + 1
  | .lit _ => 1
  | .nil => 1
  | .ptr d => uptoBulk d + 1
  | .slice elems spare => uptoBulkAll elems + uptoBulkAll spare + 1
  | .agg parts => uptoBulkAll parts + 1
  | .iface _ d => uptoBulk d + 1
  | .map entries => uptoBulkEntries entries + 1
  | .held _ => 1
def uptoBulkAll {H : Type} : List (DataW H) → Nat
  | [] => 0
  | d :: r => uptoBulk d + uptoBulkAll r
def uptoBulkEntries {H : Type} : List (Lit × DataW H) → Nat
  | [] => 0
  | x :: r => uptoBulkEntry x + uptoBulkEntries r
def uptoBulkEntry {H : Type} : Lit × DataW H → Nat
  | (.string bytes, d) => bytes.length + uptoBulk d + 1
  | (_, d) => uptoBulk d + 1
 end
def uptoSmall : (H : Type) → List (DataW H) → Bool := fun _ ds => decide (uptoBulkAll ds ≤ 1048576)
def OpenSpec.upto (s : _root_.Go.ChangeSpec) : _root_.Go.OpenSpec := { _root_.Go.OpenSpec.ofChange s with cond := some uptoSmall }

/-- 'laws.FnExactProofLooseIs', WHERE WHAT IT READS IS OF BULK AT MOST 1048576: true; the input reads as it did. -/
def fnExactProofLooseIsUptoRow : OpenClaim := { program := "ytlhbdeebkkpkmaa", sum := "7dcf8b08ba88129b0aff14358a0e7b44a079bab8da55c109e591c84c24198327", func := "loop.example/floorrooms/laws.FnExactProofLooseIs", spec := "fnExactProofLooseIs", apart := false, narrowed := true }
def FnExactProofLooseIsUptoSaid : Prop := fnExactProofLooseIsUptoRow.holds Try.pinned (OpenSpec.upto fnExactProofLooseIsSpec)

/-- 'laws.FnExactProofFairIs', WHERE WHAT IT READS IS OF BULK AT MOST 1048576: true; the input reads as it did. -/
def fnExactProofFairIsUptoRow : OpenClaim := { program := "ytlhbdeebkkpkmaa", sum := "7dcf8b08ba88129b0aff14358a0e7b44a079bab8da55c109e591c84c24198327", func := "loop.example/floorrooms/laws.FnExactProofFairIs", spec := "fnExactProofFairIs", apart := false, narrowed := true }
def FnExactProofFairIsUptoSaid : Prop := fnExactProofFairIsUptoRow.holds Try.pinned (OpenSpec.upto fnExactProofFairIsSpec)

/-- 'laws.FnExactProofLoose', WHERE WHAT IT READS IS OF BULK AT MOST 1048576: true; the input reads as it did. -/
def fnExactProofLooseUptoRow : OpenClaim := { program := "ytlhbdeebkkpkmaa", sum := "7dcf8b08ba88129b0aff14358a0e7b44a079bab8da55c109e591c84c24198327", func := "loop.example/floorrooms/laws.FnExactProofLoose", spec := "fnExactProofLoose", inPlace := ["internal/abi.NoEscape"], unfollowed := true, recurses := true, apart := false, narrowed := true }
def FnExactProofLooseUptoSaid : Prop := fnExactProofLooseUptoRow.holds Try.pinned (OpenSpec.upto fnExactProofLooseSpec)

/-- 'laws.FnLooseIs', WHERE WHAT IT READS IS OF BULK AT MOST 1048576: true; the input reads as it did. -/
def fnLooseIsUptoRow : OpenClaim := { program := "ytlhbdeebkkpkmaa", sum := "7dcf8b08ba88129b0aff14358a0e7b44a079bab8da55c109e591c84c24198327", func := "loop.example/floorrooms/laws.FnLooseIs", spec := "fnLooseIs", unfollowed := true, recurses := true, apart := false, narrowed := true }
def FnLooseIsUptoSaid : Prop := fnLooseIsUptoRow.holds Try.pinned (OpenSpec.upto fnLooseIsSpec)

/-- 'laws.FnExactProofFair', WHERE WHAT IT READS IS OF BULK AT MOST 1048576: true; the input reads as it did. -/
def fnExactProofFairUptoRow : OpenClaim := { program := "ytlhbdeebkkpkmaa", sum := "7dcf8b08ba88129b0aff14358a0e7b44a079bab8da55c109e591c84c24198327", func := "loop.example/floorrooms/laws.FnExactProofFair", spec := "fnExactProofFair", inPlace := ["internal/abi.NoEscape"], unfollowed := true, recurses := true, apart := false, narrowed := true }
def FnExactProofFairUptoSaid : Prop := fnExactProofFairUptoRow.holds Try.pinned (OpenSpec.upto fnExactProofFairSpec)

/-- 'laws.FnFairIs', WHERE WHAT IT READS IS OF BULK AT MOST 1048576: true; the input reads as it did. -/
def fnFairIsUptoRow : OpenClaim := { program := "ytlhbdeebkkpkmaa", sum := "7dcf8b08ba88129b0aff14358a0e7b44a079bab8da55c109e591c84c24198327", func := "loop.example/floorrooms/laws.FnFairIs", spec := "fnFairIs", unfollowed := true, recurses := true, apart := false, narrowed := true }
def FnFairIsUptoSaid : Prop := fnFairIsUptoRow.holds Try.pinned (OpenSpec.upto fnFairIsSpec)

/-- 'laws.FnProofLoose', WHERE WHAT IT READS IS OF BULK AT MOST 1048576: true; the input reads as it did. -/
def fnProofLooseUptoRow : OpenClaim := { program := "ytlhbdeebkkpkmaa", sum := "7dcf8b08ba88129b0aff14358a0e7b44a079bab8da55c109e591c84c24198327", func := "loop.example/floorrooms/laws.FnProofLoose", spec := "fnProofLoose", inPlace := ["internal/abi.NoEscape"], unfollowed := true, recurses := true, apart := false, narrowed := true }
def FnProofLooseUptoSaid : Prop := fnProofLooseUptoRow.holds Try.pinned (OpenSpec.upto fnProofLooseSpec)

/-- 'laws.FnProofEither', WHERE WHAT IT READS IS OF BULK AT MOST 1048576: true; the input reads as it did. -/
def fnProofEitherUptoRow : OpenClaim := { program := "ytlhbdeebkkpkmaa", sum := "7dcf8b08ba88129b0aff14358a0e7b44a079bab8da55c109e591c84c24198327", func := "loop.example/floorrooms/laws.FnProofEither", spec := "fnProofEither", inPlace := ["internal/abi.NoEscape"], unfollowed := true, recurses := true, apart := false, narrowed := true }
def FnProofEitherUptoSaid : Prop := fnProofEitherUptoRow.holds Try.pinned (OpenSpec.upto fnProofEitherSpec)

/-- 'laws.FnProofFair', WHERE WHAT IT READS IS OF BULK AT MOST 1048576: true; the input reads as it did. -/
def fnProofFairUptoRow : OpenClaim := { program := "ytlhbdeebkkpkmaa", sum := "7dcf8b08ba88129b0aff14358a0e7b44a079bab8da55c109e591c84c24198327", func := "loop.example/floorrooms/laws.FnProofFair", spec := "fnProofFair", inPlace := ["internal/abi.NoEscape"], unfollowed := true, recurses := true, apart := false, narrowed := true }
def FnProofFairUptoSaid : Prop := fnProofFairUptoRow.holds Try.pinned (OpenSpec.upto fnProofFairSpec)

end Rows
end Go.Proofs.Ytlhbdeebkkpkmaa
