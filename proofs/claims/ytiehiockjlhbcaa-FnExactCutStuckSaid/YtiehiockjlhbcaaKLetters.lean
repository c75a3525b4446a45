/- The program's lettersOf and ProofCut. -/
import Derived.Test.YtiehiockjlhbcaaKCutText
import Derived.Test.YtiehiockjlhbcaaKStuck
namespace Go.Proofs.Ytiehiockjlhbcaa
open Go.RowKit Go.Shelf Go.Proofs.YtiehiockjlhbcaaW.PrintWords Go.Proofs.YtiehiockjlhbcaaW.PrintMore
set_option linter.unusedVariables false

theorem stuck_whole {cl : Nat → Nat → Int} {boxes : List Box} {h wd : Nat} (f : Flat cl boxes h wd) : ∀ (n : Nat) (r c ph pw : Nat), Whole cl h wd r c ph pw → ∀ R, stuckL cl boxes n (r, c, ph, pw) = some R → Whole cl h wd R.1 R.2.1 R.2.2.1 R.2.2.2 := by
  intro n
  induction n with
  | zero => intro r c ph pw _ R h; cases h
  | succ n ih =>
    intro r c ph pw hw R h
    unfold stuckL at h
    split at h
    · cases h
    · split at h
      · obtain rfl := Option.some.inj h; exact hw
      · rename_i x hx
        obtain ⟨w1, w2⟩ := whole_parts f hw (head_in hx)
        split at h
        · rename_i R1 h1
          obtain rfl := Option.some.inj h
          exact ih _ _ _ _ w1 R1 h1
        · exact ih _ _ _ _ w2 R h
def stuckO (p : List ByteArray) : Option Rc := stuckL (clP p) (boxesP p) 13 (0, 0, p.length, wdP p)
/-- The rooms of the first part without a cut. -/
def stuckRooms (p : List ByteArray) : List Int := match stuckO p with
  | none => []
  | some R => listL (boxesP p) (boxR R) (boxesP p).length
end Go.Proofs.Ytiehiockjlhbcaa
