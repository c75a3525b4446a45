/- Texts of this claim's, joined by a program: AFours, ALoose, ARead, ATmP. -/
import Derived.Test.YtbpppchkgjcahaaProg
import Derived.RangeFuncBound
import Derived.Shelf.RegionOpen
import Derived.WalkKit
import Derived.TacticsInMore
import Derived.LoopNIn
import Derived.LoopIn
import Derived.KernelRfl
import Derived.Deep.QuietTactic
import Derived.BigQuiet
import Derived.Test.YtbpppchkgjcahaaKABase
import Derived.Test.YtbpppchkgjcahaaKAWords
section
namespace Go.Proofs.Ytbpppchkgjcahaa
open Go.RowKit Go.Shelf Go.Proofs.YtbpppchkgjcahaaW.PrintWords
attribute [local go_sem] Oper.semAt_some
set_option linter.unusedVariables false
end Go.Proofs.Ytbpppchkgjcahaa
end
section
namespace Go.Proofs.Ytbpppchkgjcahaa
open Go.RowKit Go.Shelf Go.Proofs.YtbpppchkgjcahaaW.PrintWords Go.Proofs.YtbpppchkgjcahaaW.PrintMore
attribute [local go_sem] Oper.semAt_some
attribute [local go_sem] max2_int min2_int max_two min_two max_three min_three max_four min_four
set_option linter.unusedVariables false
end Go.Proofs.Ytbpppchkgjcahaa
end
section
namespace Go.Proofs.Ytbpppchkgjcahaa
open Go.RowKit Go.Shelf Go.Proofs.YtbpppchkgjcahaaW.PrintWords Go.Proofs.YtbpppchkgjcahaaW.PrintMore
attribute [local go_sem] max2_int min2_int max_two min_two max_three min_three max_four min_four
set_option linter.unusedVariables false
end Go.Proofs.Ytbpppchkgjcahaa
end
section
namespace Go.Proofs.Ytbpppchkgjcahaa
open Go.RowKit Go.Shelf Go.Proofs.YtbpppchkgjcahaaW.PrintWords Go.Proofs.YtbpppchkgjcahaaW.PrintMore
set_option linter.unusedVariables false
inductive Tm where
  | o : Tm
  | two (level : Bool) (a b : Tm) : Tm
def signT (level : Bool) : UInt8 := if level then 45 else 124
def tmText : Tm → List UInt8
  | .o => [111]
  | .two l a b => 40 :: (tmText a ++ signT l :: (tmText b ++ [41]))
def tmMany : Tm → Nat
  | .o => 1
  | .two _ a b => tmMany a + tmMany b
theorem tmText_len (t : Tm) : (tmText t).length + 3 = 4 * tmMany t := by
  induction t with
  | o => rfl
  | two l a b ih1 ih2 =>
    unfold tmText tmMany
    simp only [List.length_cons, List.length_append, List.length_nil]
    omega
def TmAt (W : World) : Nat → Tm → Prop
  | b, .o => W.heap[b]? = some (.cells #[.int .u8 111, .slice none 0 0] 79)
  | b, .two l s t => ∃ kb x y, W.heap[b]? = some (.cells #[.int .u8 (if l then 45 else 124), .slice (some ⟨kb, 0, none⟩) 2 2] 79) ∧ W.cell? ⟨kb, 0, none⟩ = some (.pointer (some ⟨x, 0, none⟩)) ∧ W.cell? ⟨kb, 1, none⟩ = some (.pointer (some ⟨y, 0, none⟩)) ∧ kb < W.heap.size ∧ TmAt W x s ∧ TmAt W y t
theorem TmAt.below {W W' : World} (hb : Below W.heap.size W W') : ∀ {t : Tm} {b : Nat}, TmAt W b t → TmAt W' b t := by
  intro t
  induction t with
  | o => intro b h; exact (hb.block b (Array.getElem?_eq_some_iff.1 h).1).trans h
  | two l s t ih1 ih2 =>
    rintro b ⟨kb, x, y, h1, h2, h3, h4, h5, h6⟩
    exact ⟨kb, x, y, (hb.block b (Array.getElem?_eq_some_iff.1 h1).1).trans h1, (hb.cell (p := ⟨kb, 0, none⟩) h4).trans h2, (hb.cell (p := ⟨kb, 1, none⟩) h4).trans h3, Nat.lt_of_lt_of_le h4 hb.size, ih1 h5, ih2 h6⟩
end Go.Proofs.Ytbpppchkgjcahaa
end
