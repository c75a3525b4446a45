/- The laws' sameInts at one list, twice: true. -/
import Derived.Test.YtbpppchkgjcahaaKEL6x
import Derived.Test.YtbpppchkgjcahaaKEFloorRM
namespace Go.Proofs.Ytbpppchkgjcahaa
open Go.RowKit Go.Shelf Go.Proofs.YtbpppchkgjcahaaW.PrintWords Go.Proofs.YtbpppchkgjcahaaW.PrintMore
set_option linter.unusedVariables false
theorem sameI_l (l : List Int) (hl : l.length ≤ 1000) : ∀ d i, i + d = l.length → Ev (fun k => L6.laws_sameInts.l0 k l l (i : Int)) true := by
  intro d
  induction d with
  | zero =>
    intro i hi
    refine Ev.now fun k => ?_
    unfold L6.laws_sameInts.l0
    rw [if_neg (by omega)]
  | succ d ih =>
    intro i hi
    have hw1 : wrap64 ((i : Int) + 1) = ((i + 1 : Nat) : Int) := by unfold wrap64; omega
    refine (ih (i + 1) (by omega)).step fun k => ?_
    show L6.laws_sameInts.l0 (k + 1) l l _ = _
    conv => lhs; unfold L6.laws_sameInts.l0
    rw [if_pos (by omega), if_pos (by omega), if_pos (by omega), if_pos rfl, hw1]
theorem sameI_f (l : List Int) (hl : l.length ≤ 1000) : Ev (fun k => L6.laws_sameInts.f k l l) true := by
  refine (sameI_l l hl l.length 0 (by omega)).same fun k => ?_
  unfold L6.laws_sameInts.f
  rw [if_pos rfl]; rfl
theorem sameI_any (V : List Int) (hl : V.length ≤ 1000) (A1 : Option Addr) (c1 : Nat) (A2 : Option Addr) (c2 : Nat) (W : World) (h1 : Kd.C (Kd.int .i64) W A1 V.length V) (h2 : V.length ≤ c1) (h3 : Kd.C (Kd.int .i64) W A2 V.length V) (h4 : V.length ≤ c2) :
    Calls Try.prog 32 #[.slice A1 V.length c1, .slice A2 V.length c2] W fun e w' => e = .returned (.bool true) ∧ Below W.heap.size W w' := by
  obtain ⟨k, hk⟩ := (sameI_f V hl).ex
  exact (L6.laws_sameInts.calls k A1 c1 V A2 c2 V true W h1 h2 h3 h4 hk).mono fun e w' ⟨he, n, hw⟩ => ⟨he, by rw [hw]; exact pw_below_drewN (Below.refl _ _) _⟩
end Go.Proofs.Ytbpppchkgjcahaa
