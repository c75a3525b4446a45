/- The program's order of inits, laid out as numbers: what a row asks of it. Conditions: none. (Printed by wip/tools/mkio.py.) -/
import Derived.Test.YtbpppchkgjcahaaRows
import Derived.JoinedOf
import Derived.KernelRfl
namespace Go.Proofs.Ytbpppchkgjcahaa
open Go
def ioL : List Char := List.map Char.ofNat [
  104, 97, 114, 110, 101, 115, 115, 32, 52, 102, 100, 52, 99, 99, 52, 52, 99, 101, 98, 51, 54, 57, 100, 57, 97, 100, 57, 51, 51, 101, 50, 97, 97, 49, 97, 53, 100, 50, 56, 51,
  51, 49, 53, 97, 99, 50, 57, 100, 97, 51, 97, 56, 98, 48, 53, 101, 97, 52, 52, 99, 48, 53, 100, 97, 100, 48, 100, 100, 97, 55, 98, 101, 32, 99, 117, 116, 32, 97, 116, 32,
  108, 111, 111, 112, 46, 101, 120, 97, 109, 112, 108, 101, 47, 102, 108, 111, 111, 114, 114, 111, 111, 109, 115, 47, 108, 97, 119, 115, 46, 70, 110, 69, 120, 97, 99, 116, 84, 101, 114, 109,
  79, 102, 32, 108, 111, 111, 112, 46, 101, 120, 97, 109, 112, 108, 101, 47, 102, 108, 111, 111, 114, 114, 111, 111, 109, 115, 47, 108, 97, 119, 115, 46, 70, 110, 78, 101, 97, 114, 87, 97,
  121, 32, 108, 111, 111, 112, 46, 101, 120, 97, 109, 112, 108, 101, 47, 102, 108, 111, 111, 114, 114, 111, 111, 109, 115, 47, 108, 97, 119, 115, 46, 70, 110, 78, 101, 97, 114, 70, 97, 114,
  32, 108, 111, 111, 112, 46, 101, 120, 97, 109, 112, 108, 101, 47, 102, 108, 111, 111, 114, 114, 111, 111, 109, 115, 47, 108, 97, 119, 115, 46, 70, 110, 78, 101, 97, 114, 70, 105, 114, 115,
  116, 32, 108, 111, 111, 112, 46, 101, 120, 97, 109, 112, 108, 101, 47, 102, 108, 111, 111, 114, 114, 111, 111, 109, 115, 47, 108, 97, 119, 115, 46, 70, 110, 78, 101, 97, 114, 77, 97, 110,
  121, 32, 108, 111, 111, 112, 46, 101, 120, 97, 109, 112, 108, 101, 47, 102, 108, 111, 111, 114, 114, 111, 111, 109, 115, 47, 108, 97, 119, 115, 46, 70, 110, 69, 120, 97, 99, 116, 67, 111,
  117, 110, 116, 67, 117, 116, 32, 108, 111, 111, 112, 46, 101, 120, 97, 109, 112, 108, 101, 47, 102, 108, 111, 111, 114, 114, 111, 111, 109, 115, 47, 108, 97, 119, 115, 46, 70, 110, 67, 111,
  117, 110, 116, 67, 117, 116, 32, 108, 111, 111, 112, 46, 101, 120, 97, 109, 112, 108, 101, 47, 102, 108, 111, 111, 114, 114, 111, 111, 109, 115, 47, 108, 97, 119, 115, 46, 70, 110, 69, 120,
  97, 99, 116, 67, 111, 117, 110, 116, 80, 108, 97, 105, 110, 32, 108, 111, 111, 112, 46, 101, 120, 97, 109, 112, 108, 101, 47, 102, 108, 111, 111, 114, 114, 111, 111, 109, 115, 47, 108, 97,
  119, 115, 46, 70, 110, 67, 111, 117, 110, 116, 80, 108, 97, 105, 110, 32, 108, 111, 111, 112, 46, 101, 120, 97, 109, 112, 108, 101, 47, 102, 108, 111, 111, 114, 114, 111, 111, 109, 115, 47,
  108, 97, 119, 115, 46, 70, 110, 69, 120, 97, 99, 116, 84, 101, 114, 109, 80, 108, 97, 110, 32, 108, 111, 111, 112, 46, 101, 120, 97, 109, 112, 108, 101, 47, 102, 108, 111, 111, 114, 114,
  111, 111, 109, 115, 47, 108, 97, 119, 115, 46, 70, 110, 84, 101, 114, 109, 82, 111, 111, 109, 115, 32, 108, 111, 111, 112, 46, 101, 120, 97, 109, 112, 108, 101, 47, 102, 108, 111, 111, 114,
  114, 111, 111, 109, 115, 47, 108, 97, 119, 115, 46, 70, 110, 84, 105, 100, 121]
theorem io0 : Try.prog.initOrder = String.ofList ioL := by kernel_rfl
theorem io1 : Try.prog.initOrder.toList = ioL := by rw [io0]; exact String.toList_ofList
theorem strip_cut (R : List (List Char)) : stripLifts liftWords ("cut".toList :: R) = ([], "cut".toList :: R) := by rfl
theorem mayEnter_of {P : Program} {R : List (List Char)} (h : behindMainWord (wordsSigns P.initOrder.toList) = "cut".toList :: R) (h1 : P.laysLater = false) (h2 : P.bearsReflect = false) (h3 : P.doorFits [] = true) : P.mayEnter = true := by
  unfold Program.mayEnter
  rw [h]
  simp only [strip_cut, h1, h2, h3]
  have e1 : ("cut".toList == "gc".toList) = false := by decide
  have e2 : ("cut".toList == "spec".toList) = false := by decide
  have e3 : ("cut".toList == "carried".toList) = false := by decide
  rw [e1, e2, e3]
  simp
theorem lifts_of {P : Program} {R : List (List Char)} (h : behindMainWord (wordsSigns P.initOrder.toList) = "cut".toList :: R) : P.headLifts = [] ∧ P.liftsFinal = false := by
  have h0 : P.headLifts = [] := by
    unfold Program.headLifts
    rw [h]
    simp only [strip_cut]
    split <;> rfl
  refine ⟨h0, ?_⟩
  unfold Program.liftsFinal
  rw [h, h0]
  have e3 : (some "cut".toList == some "carried".toList) = false := by decide
  simp only [List.head?_cons, e3, Bool.false_and, Bool.false_or]
  rfl
theorem make_of {P : Program} {R : List (List Char)} (h : behindMainWord (wordsSigns P.initOrder.toList) = "cut".toList :: R) : P.make = some .cut := by
  unfold Program.make
  rw [h]
  have e1 : ("cut".toList == "gc".toList) = false := by decide
  have e2 : ("cut".toList == "spec".toList) = false := by decide
  have e3 : ("cut".toList == "cut".toList) = true := by decide
  simp only [e1, e2, e3, Bool.false_or, Bool.true_or, if_true, Bool.false_eq_true, if_false]
def ioR : List (List Char) := (behindMainWord (wordsSigns ioL)).tail
theorem ioW0 : behindMainWord (wordsSigns ioL) = "cut".toList :: ioR := by kernel_rfl
theorem ioW : behindMainWord (wordsSigns Try.prog.initOrder.toList) = "cut".toList :: ioR := by rw [io1]; exact ioW0
theorem io_lays : Try.prog.laysLater = false := by kernel_rfl
theorem io_bears : Try.prog.bearsReflect = false := by kernel_rfl
theorem io_door : Try.prog.doorFits [] = true := by kernel_rfl
theorem ioE : Try.pinned.checked.prog.mayEnter = true := mayEnter_of (P := Try.prog) ioW io_lays io_bears io_door
theorem ioF : Try.pinned.checked.prog.liftsFinal = false := (lifts_of (P := Try.prog) ioW).2
theorem ioM : Try.pinned.checked.prog.make = some .cut := make_of (P := Try.prog) ioW
end Go.Proofs.Ytbpppchkgjcahaa
