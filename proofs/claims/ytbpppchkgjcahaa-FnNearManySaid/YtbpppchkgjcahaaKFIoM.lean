/- Texts of this claim's, joined by a program: FIo, FBase, FPlanP, FPlanQ, FBoth, FMap. -/
import Derived.Test.YtbpppchkgjcahaaRows
import Derived.JoinedOf
import Derived.KernelRfl
import Derived.StillTailTactics
import Derived.OrdersIn
import Derived.TacticsIn
import Derived.RangeFuncCalls
import Derived.OwnWalkIn
import Derived.RangeFuncNested
import Derived.Deep.Draws
import Derived.Shelf.Abstract
import Derived.Test.YtbpppchkgjcahaaProg
import Derived.Test.YtbpppchkgjcahaaKFWords
import Derived.Deep.QuietTactic
import Derived.BigQuiet
import Derived.Deep.RegionHeld3
import Derived.Maps.OwnSet
import Derived.Maps.Views
section
namespace Go.Proofs.Ytbpppchkgjcahaa
open Go
def ioL : List Char := List.map Char.ofNat [
  104, 97, 114, 110, 101, 115, 115, 32, 52, 102, 100, 52, 99, 99, 52, 52, 99, 101, 98, 51, 54, 57, 100, 57, 97, 100, 57, 51, 51, 101, 50, 97, 97, 49, 97, 53, 100, 50, 56, 51,
  51, 49, 53, 97, 99, 50, 57, 100, 97, 51, 97, 56, 98, 48, 53, 101, 97, 52, 52, 99, 48, 53, 100, 97, 100, 48, 100, 100, 97, 55, 98, 101, 32, 99, 117, 116, 32, 97, 116, 32,
  108, 111, 111, 112, 46, 101, 120, 97, 109, 112, 108, 101, 47, 102, 108, 111, 111, 114, 114, 111, 111, 109, 115, 47, 108, 97, 119, 115, 46, 70, 110, 69, 120, 97, 99, 116, 84, 101, 114, 109,
  79, 102, 32, 108, 111, 111, 112, 46, 101, 120, 97, 109, 112, 108, 101, 47, 102, 108, 111, 111, 114, 114, 111, 111, 109, 115, 47, 108, 97, 119, 115, 46, 70, 110, 78, 101, 97, 114, 87, 97,
  121, 32, 108, 111, 111, 112, 46, 101, 120, 97, 109, 112, 108, 101, 47, 102, 108, 111, 111, 114, 114, 111, 111, 109, 115, 47, 108, 97, 119, 115, 46, 70, 110, 78, 101, 97, 114, 70, 97, 114,
  32, 108, 111, 111, 112, 46, 101, 120, 97, 109, 112, 108, 101, 47, 102, 108, 111, 111, 114, 114, 111, 111, 109, 115, 47, 108, 97, 119, 115, 46, 70, 110, 78, 101, 97, 114, 70, 105, 114, 115,
  116, 32, 108, 111, 111, 112, 46, 101, 120, 97, 109, 112, 108, 101, 47, 102, 108, 111, 111, 114, 114, 111, 111, 109, 115, 47, 108, 97, 119, 115, 46, 70, 110, 78, 101, 97, 114, 77, 97, 110,
  121, 32, 108, 111, 111, 112, 46, 101, 120, 97, 109, 112, 108, 101, 47, 102, 108, 111, 111, 114, 114, 111, 111, 109, 115, 47, 108, 97, 119, 115, 46, 70, 110, 69, 120, 97, 99, 116, 67, 111,
  117, 110, 116, 67, 117, 116, 32, 108, 111, 111, 112, 46, 101, 120, 97, 109, 112, 108, 101, 47, 102, 108, 111, 111, 114, 114, 111, 111, 109, 115, 47, 108, 97, 119, 115, 46, 70, 110, 67, 111,
  117, 110, 116, 67, 117, 116, 32, 108, 111, 111, 112, 46, 101, 120, 97, 109, 112, 108, 101, 47, 102, 108, 111, 111, 114, 114, 111, 111, 109, 115, 47, 108, 97, 119, 115, 46, 70, 110, 69, 120,
  97, 99, 116, 67, 111, 117, 110, 116, 80, 108, 97, 105, 110, 32, 108, 111, 111, 112, 46, 101, 120, 97, 109, 112, 108, 101, 47, 102, 108, 111, 111, 114, 114, 111, 111, 109, 115, 47, 108, 97,
  119, 115, 46, 70, 110, 67, 111, 117, 110, 116, 80, 108, 97, 105, 110, 32, 108, 111, 111, 112, 46, 101, 120, 97, 109, 112, 108, 101, 47, 102, 108, 111, 111, 114, 114, 111, 111, 109, 115, 47,
  108, 97, 119, 115, 46, 70, 110, 69, 120, 97, 99, 116, 84, 101, 114, 109, 80, 108, 97, 110, 32, 108, 111, 111, 112, 46, 101, 120, 97, 109, 112, 108, 101, 47, 102, 108, 111, 111, 114, 114,
  111, 111, 109, 115, 47, 108, 97, 119, 115, 46, 70, 110, 84, 101, 114, 109, 82, 111, 111, 109, 115, 32, 108, 111, 111, 112, 46, 101, 120, 97, 109, 112, 108, 101, 47, 102, 108, 111, 111, 114,
  114, 111, 111, 109, 115, 47, 108, 97, 119, 115, 46, 70, 110, 84, 105, 100, 121]
theorem io0 : Try.prog.initOrder = String.ofList ioL := by kernel_rfl
theorem io1 : Try.prog.initOrder.toList = ioL := by rw [io0]; exact String.toList_ofList
theorem strip_cut (R : List (List Char)) : stripLifts liftWords ("cut".toList :: R) = ([], "cut".toList :: R) := by rfl
theorem mayEnter_of {P : Program} {R : List (List Char)} (h : behindMainWord (wordsSigns P.initOrder.toList) = "cut".toList :: R) (h1 : P.laysLater = false) (h2 : P.bearsReflect = false) (h3 : P.doorFits [] = true) : P.mayEnter = true := by
  unfold Program.mayEnter
  rw [h]
  simp only [strip_cut, h1, h2, h3]
  have e1 : ("cut".toList == "gc".toList) = false := by decide
  have e2 : ("cut".toList == "spec".toList) = false := by decide
  have e3 : ("cut".toList == "carried".toList) = false := by decide
  rw [e1, e2, e3]
  simp
theorem lifts_of {P : Program} {R : List (List Char)} (h : behindMainWord (wordsSigns P.initOrder.toList) = "cut".toList :: R) : P.headLifts = [] ∧ P.liftsFinal = false := by
  have h0 : P.headLifts = [] := by
    unfold Program.headLifts
    rw [h]
    simp only [strip_cut]
    split <;> rfl
  refine ⟨h0, ?_⟩
  unfold Program.liftsFinal
  rw [h, h0]
  have e3 : (some "cut".toList == some "carried".toList) = false := by decide
  simp only [List.head?_cons, e3, Bool.false_and, Bool.false_or]
  rfl
theorem make_of {P : Program} {R : List (List Char)} (h : behindMainWord (wordsSigns P.initOrder.toList) = "cut".toList :: R) : P.make = some .cut := by
  unfold Program.make
  rw [h]
  have e1 : ("cut".toList == "gc".toList) = false := by decide
  have e2 : ("cut".toList == "spec".toList) = false := by decide
  have e3 : ("cut".toList == "cut".toList) = true := by decide
  simp only [e1, e2, e3, Bool.false_or, Bool.true_or, if_true, Bool.false_eq_true, if_false]
def ioR : List (List Char) := (behindMainWord (wordsSigns ioL)).tail
theorem ioW0 : behindMainWord (wordsSigns ioL) = "cut".toList :: ioR := by kernel_rfl
theorem ioW : behindMainWord (wordsSigns Try.prog.initOrder.toList) = "cut".toList :: ioR := by rw [io1]; exact ioW0
theorem io_lays : Try.prog.laysLater = false := by kernel_rfl
theorem io_bears : Try.prog.bearsReflect = false := by kernel_rfl
theorem io_door : Try.prog.doorFits [] = true := by kernel_rfl
theorem ioE : Try.pinned.checked.prog.mayEnter = true := mayEnter_of (P := Try.prog) ioW io_lays io_bears io_door
theorem ioF : Try.pinned.checked.prog.liftsFinal = false := (lifts_of (P := Try.prog) ioW).2
theorem ioM : Try.pinned.checked.prog.make = some .cut := make_of (P := Try.prog) ioW
end Go.Proofs.Ytbpppchkgjcahaa
end
section
namespace Go.Proofs.Ytbpppchkgjcahaa
set_option linter.unusedVariables false
open Go.RowKit
def Wide (F : Fence) : Prop := F = Fence.wide ∨ ∃ l, F = Fence.wide.inRound l
theorem Wide.wide : Wide Fence.wide := .inl rfl
theorem Wide.round (l : Nat) : Wide (Fence.wide.inRound l) := .inr ⟨l, rfl⟩
theorem Wide.fn {F : Fence} (h : Wide F) (f : FuncId) : F.fn f := by rcases h with rfl | ⟨l, rfl⟩ <;> trivial
theorem Wide.depth {F : Fence} (h : Wide F) {k : Nat} : F.depth.isSome = true → 1 ≤ k := by rcases h with rfl | ⟨l, rfl⟩ <;> (intro h; cases h)
theorem Wide.calls {F : Fence} {n : Nat} {P : Program} {f : FuncId} {args : Array Value} {w : World} {R : Ending → World → Prop} (h : Wide F) (c : Calls P f args w R) : CallsIn F n P f args w R := by
  rcases h with rfl | ⟨l, rfl⟩
  · exact callsIn_wide.2 c
  · exact (callsIn_wide.2 c).inRound l
section
variable {F : Fence} {n : Nat} {P : Program} {ops : Array Oper} {md : Region.Mode} {w : World}
end
theorem wp_still_tail {P : Program} {id : Nat} {Q : Exit → Act → World → Prop} {a : Act} {w : World} {l : List Oper} (n0 : Nat) (hm : P.follows .mixedOrders = true) (hB : Region.lexTailB .any l.toArray n0 = true)
    (h : wpStill P l.toArray (w.drewN 1) (fun a' => wpList P l.toArray Q (l.drop n0) a' (w.drewN 1)) (l.take n0) a) : (Code.region id l.toArray true).wp P Q a w := wp_region_still_tail n0 hm hB h
structure Cel (A B : World) : Prop where
  size : A.heap.size ≤ B.heap.size
  same : ∀ (k : Nat) (o : Obj), A.heap[k]? = some o → o.isCells = true → B.heap[k]? = some o
theorem Cel.refl (A : World) : Cel A A := ⟨Nat.le_refl _, fun _ _ h _ => h⟩
theorem Cel.trans {A B C : World} (h : Cel A B) (k : Cel B C) : Cel A C := ⟨Nat.le_trans h.size k.size, fun i o hi ho => k.same i o (h.same i o hi ho) ho⟩
theorem Cel.block {A B : World} (h : Cel A B) {a : Addr} {v : Value} (hc : A.cell? a = some v) : B.heap[a.block]? = A.heap[a.block]? := by
  obtain ⟨o, ho, hk⟩ := cells_of_cell hc
  rw [ho]; exact h.same _ _ ho hk
theorem Cel.cell {A B : World} (h : Cel A B) {a : Addr} {v : Value} (hc : A.cell? a = some v) : B.cell? a = some v := (World.cell?_of_block (h.block hc)).trans hc
theorem Cel.frozen {A B : World} (h : Cel A B) {a : Addr} {v : Value} (hc : A.cell? a = some v) : B.frozen? a = A.frozen? a := World.frozen?_of_block (h.block hc)
theorem Cel.alloc (A : World) (o : Obj) : Cel A (A.alloc o) := ⟨by simp, fun k o' hk _ => (Below.heap_alloc A o k (Array.getElem?_eq_some_iff.1 hk).1).trans hk⟩
theorem Cel.of_below {A B : World} (h : Below A.heap.size A B) : Cel A B := ⟨h.size, fun k o hk _ => (h.block k (Array.getElem?_eq_some_iff.1 hk).1).trans hk⟩
theorem Cel.row {A B : World} (h : Cel A B) {base : Nat} {e : TypeId} {size : Nat} {v : Value} {n : Nat} {xs : List Value} (hr : A.ownsRow base e size v n xs) : B.ownsRow base e size v n xs := by
  obtain ⟨h1, h2⟩ := hr
  refine ⟨h1, ?_⟩
  rcases h2 with h2 | ⟨g, cap, cur, rfl, hg, hh, r⟩
  · exact .inl h2
  · exact .inr ⟨g, cap, cur, rfl, hg, h.same _ _ hh rfl, r⟩
structure KeepM (n₀ : Nat) (M : Nat → Prop) (A B : World) : Prop where
  os : B.os = A.os
  tape : B.tape = A.tape
  output : B.output = A.output
  size : A.heap.size ≤ B.heap.size
  block : ∀ k, k < n₀ → ¬ M k → B.heap[k]? = A.heap[k]?
theorem KeepM.refl (n₀ : Nat) (M : Nat → Prop) (A : World) : KeepM n₀ M A A := ⟨rfl, rfl, rfl, Nat.le_refl _, fun _ _ _ => rfl⟩
theorem KeepM.trans {n₀ : Nat} {M : Nat → Prop} {A B C : World} (h : KeepM n₀ M A B) (k : KeepM n₀ M B C) : KeepM n₀ M A C :=
  ⟨k.os.trans h.os, k.tape.trans h.tape, k.output.trans h.output, Nat.le_trans h.size k.size, fun i hi hm => (k.block i hi hm).trans (h.block i hi hm)⟩
theorem KeepM.of_below {n₀ : Nat} {M : Nat → Prop} {A B : World} (h : Below n₀ A B) : KeepM n₀ M A B := ⟨h.os, h.tape, h.output, h.size, fun k hk _ => h.block k hk⟩
theorem KeepM.below {n₀ m : Nat} {M : Nat → Prop} {A B : World} (h : KeepM n₀ M A B) (hm : ∀ k, M k → m ≤ k) (hn : m ≤ n₀) : Below m A B :=
  ⟨h.os, h.tape, h.output, h.size, fun k hk => h.block k (by omega) (fun hM => by have := hm k hM; omega)⟩
theorem KeepM.mono {n₀ n₁ : Nat} {M : Nat → Prop} {A B : World} (h : KeepM n₀ M A B) (hn : n₁ ≤ n₀) : KeepM n₁ M A B := ⟨h.os, h.tape, h.output, h.size, fun k hk hm => h.block k (by omega) hm⟩
theorem KeepM.cell {n₀ : Nat} {M : Nat → Prop} {A B : World} (h : KeepM n₀ M A B) {a : Addr} (ha : a.block < n₀) (hM : ¬ M a.block) : B.cell? a = A.cell? a := World.cell?_of_block (h.block _ ha hM)
theorem KeepM.grown {n₀ : Nat} {M : Nat → Prop} {A B C : World} (h : KeepM n₀ M A B) (hg : B.grownBy C none) (hn : n₀ ≤ B.heap.size) : KeepM n₀ M A C :=
  h.trans ⟨hg.os, hg.tape, hg.output, hg.size, fun k hk _ => hg.block k (by omega) (by simp)⟩
structure Rd (n₀ : Nat) (M : Nat → Prop) (A B : World) : Prop where
  keep : KeepM n₀ M A B
  others : KeepsFrom n₀ A B
theorem Rd.refl (n₀ : Nat) (M : Nat → Prop) (A : World) : Rd n₀ M A A := ⟨KeepM.refl _ _ _, KeepsFrom.refl _ _⟩
theorem Rd.trans {n₀ : Nat} {M : Nat → Prop} {A B C : World} (h : Rd n₀ M A B) (k : Rd n₀ M B C) : Rd n₀ M A C := ⟨h.keep.trans k.keep, h.others.trans k.others⟩
theorem Rd.size {n₀ : Nat} {M : Nat → Prop} {A B : World} (h : Rd n₀ M A B) : A.heap.size ≤ B.heap.size := h.keep.size
theorem Rd.alloc {n₀ : Nat} {M : Nat → Prop} {A B : World} (h : Rd n₀ M A B) (hn : n₀ ≤ A.heap.size) (o : Obj) : Rd n₀ M A (B.alloc o) :=
  h.trans ⟨.of_below ((Below.refl _ _).alloc (Nat.le_trans hn h.size) o), (KeepsOthers.alloc _ _).from _⟩
theorem Rd.setCell {n₀ : Nat} {M : Nat → Prop} {A B : World} (h : Rd n₀ M A B) {p : Addr} (hp : n₀ ≤ p.block ∨ M p.block) (v : Value) : Rd n₀ M A (B.setCell p v) :=
  h.trans ⟨⟨rfl, rfl, rfl, by simp [World.setCell], fun k hk hm => Below.heap_setCell _ _ _ _ (fun e => by subst e; rcases hp with hp | hp; (· omega); exact hm hp)⟩, (KeepsOthers.setCell _ _ _).from _⟩
theorem Rd.drew {n₀ : Nat} {M : Nat → Prop} {A B : World} (h : Rd n₀ M A B) : Rd n₀ M A B.drew := h.trans ⟨.of_below ((Below.refl _ _).drew), (KeepsOthers.drew _).from _⟩
theorem Rd.drewN {n₀ : Nat} {M : Nat → Prop} {A B : World} (h : Rd n₀ M A B) (m : Nat) : Rd n₀ M A (B.drewN m) := h.trans ⟨⟨rfl, rfl, rfl, Nat.le_refl _, fun _ _ _ => rfl⟩, ⟨Nat.le_refl _, fun _ _ _ h _ => h⟩⟩
theorem Rd.call {n₀ : Nat} {M : Nat → Prop} {A B C : World} (h : Rd n₀ M A B) (hn : n₀ ≤ A.heap.size) (hb : Below B.heap.size B C) : Rd n₀ M A C :=
  h.trans ⟨.of_below (hb.mono (Nat.le_trans hn h.size)), ⟨hb.size, fun k o _ hk _ => (hb.block k (Array.getElem?_eq_some_iff.1 hk).1).trans hk⟩⟩
theorem Rd.grown {n₀ : Nat} {M : Nat → Prop} {A B C : World} (h : Rd n₀ M A B) {row : Option Nat} (hg : B.grownBy C row) (hn : n₀ ≤ A.heap.size) (hr : ∀ k, row = some k → (n₀ ≤ k ∨ M k) ∧ ∀ o, B.heap[k]? = some o → o.isCells = true) : Rd n₀ M A C :=
  h.trans ⟨⟨hg.os, hg.tape, hg.output, hg.size, fun k hk hm => hg.block k (Nat.lt_of_lt_of_le hk (Nat.le_trans hn h.size)) (fun e => by rcases (hr k e.symm).1 with h1 | h1; (· omega); exact hm h1)⟩, (KeepsOthers.of_grownBy hg (fun j o e ho => (hr j e).2 o ho)).from _⟩
end Go.Proofs.Ytbpppchkgjcahaa
end
section
namespace Go.Proofs.Ytbpppchkgjcahaa
open Go.RowKit
set_option linter.unusedVariables false
abbrev Box := Int × Int × Int × Int
def bothB (b o : Box) : Box := (min b.1 o.1, min b.2.1 o.2.1, max (b.1 + b.2.2.1) (o.1 + o.2.2.1) - min b.1 o.1, max (b.2.1 + b.2.2.2) (o.2.1 + o.2.2.2) - min b.2.1 o.2.1)
def areaB (b : Box) : Int := b.2.2.1 * b.2.2.2
def cellBox (w n : Nat) : Box := (((n / w : Nat) : Int), ((n % w : Nat) : Int), 1, 1)
abbrev Scan := List Int × List Box
def addX (s : Scan) (b : Box) (x : Int) : Scan := if x ∈ s.1 then s else (s.1 ++ [x], s.2 ++ [b])
def stepX (s : Scan) (b : Box) (x : Int) : Scan :=
  ((addX s b x).1, (addX s b x).2.set (s.1.idxOf x) (bothB ((addX s b x).2.getD (s.1.idxOf x) (0, 0, 0, 0)) b))
def scan (w : Nat) (f : Nat → Int) : Nat → Scan
  | 0 => ([], [])
  | n + 1 => stepX (scan w f n) (cellBox w n) (f n)
section
variable {w : Nat} {f : Nat → Int}
theorem scan_fst (n : Nat) : (scan w f (n + 1)).1 = if f n ∈ (scan w f n).1 then (scan w f n).1 else (scan w f n).1 ++ [f n] := by
  show (addX _ _ _).1 = _
  unfold addX
  split <;> rfl
theorem addX_len (s : Scan) (b : Box) (x : Int) (h : s.1.length = s.2.length) : (addX s b x).1.length = (addX s b x).2.length := by
  unfold addX; split <;> simp [h]
theorem scan_len (n : Nat) : (scan w f n).1.length = (scan w f n).2.length := by
  induction n with
  | zero => rfl
  | succ n ih =>
    show (addX _ _ _).1.length = ((addX _ _ _).2.set _ _).length
    rw [List.length_set]; exact addX_len _ _ _ ih
theorem scan_mem (n : Nat) (x : Int) : x ∈ (scan w f n).1 ↔ ∃ m, m < n ∧ f m = x := by
  induction n with
  | zero => simp [scan]
  | succ n ih =>
    rw [scan_fst]
    split
    · rename_i h
      rw [ih]
      constructor
      · rintro ⟨m, h1, h2⟩; exact ⟨m, by omega, h2⟩
      · rintro ⟨m, h1, h2⟩
        by_cases e : m = n
        · subst e; rw [← h2]; exact ih.1 (by rw [h2] at h; exact h) |> fun ⟨m', a, b⟩ => ⟨m', a, by rw [b, h2]⟩
        · exact ⟨m, by omega, h2⟩
    · rw [List.mem_append, ih]
      simp only [List.mem_singleton]
      constructor
      · rintro (⟨m, h1, h2⟩ | rfl)
        · exact ⟨m, by omega, h2⟩
        · exact ⟨n, by omega, rfl⟩
      · rintro ⟨m, h1, h2⟩
        by_cases e : m = n
        · subst e; exact .inr h2.symm
        · exact .inl ⟨m, by omega, h2⟩
theorem scan_nodup (n : Nat) : (scan w f n).1.Nodup := by
  induction n with
  | zero => exact List.nodup_nil
  | succ n ih =>
    rw [scan_fst]
    split
    · exact ih
    · rename_i h
      rw [List.nodup_append]
      exact ⟨ih, by simp, fun a ha b hb e => by simp at hb; subst hb; subst e; exact h ha⟩
theorem scan_prefix {m n : Nat} (h : m ≤ n) : (scan w f m).1 <+: (scan w f n).1 := by
  induction n with
  | zero => rw [show m = 0 by omega]; exact List.prefix_refl _
  | succ n ih =>
    by_cases e : m = n + 1
    · rw [e]; exact List.prefix_refl _
    · refine (ih (by omega)).trans ?_
      rw [scan_fst]
      split
      · exact List.prefix_refl _
      · exact List.prefix_append _ _
theorem idxOf_prefix {l l' : List Int} (h : l <+: l') {x : Int} (hx : x ∈ l) : l'.idxOf x = l.idxOf x := by
  obtain ⟨t, rfl⟩ := h
  rw [List.idxOf_append, if_pos hx]
def numAt (w : Nat) (f : Nat → Int) (n : Nat) : Nat := (scan w f n).1.idxOf (f n)
theorem num_in (n : Nat) : numAt w f n = (scan w f (n + 1)).1.idxOf (f n) := by
  unfold numAt
  rw [scan_fst]
  split
  · rfl
  · rename_i h
    rw [List.idxOf_append, if_neg h, List.idxOf_eq_length h]
    simp
theorem num_stable {n N : Nat} (h : n < N) : numAt w f n = (scan w f N).1.idxOf (f n) := by
  rw [num_in, idxOf_prefix (scan_prefix h) ((scan_mem _ _).2 ⟨n, by omega, rfl⟩)]
theorem num_lt {n N : Nat} (h : n < N) : numAt w f n < (scan w f N).1.length := by
  rw [num_stable h]; exact List.idxOf_lt_length_of_mem ((scan_mem _ _).2 ⟨n, h, rfl⟩)
def Named (w : Nat) (f : Nat → Int) (N : Nat) : Prop := ∀ n, n < N → f n = 97 + (numAt w f n : Int)
theorem named_ord {N : Nat} (h : Named w f N) (k : Nat) (hk : k < (scan w f N).1.length) : (scan w f N).1[k] = 97 + (k : Int) := by
  obtain ⟨m, hm, e⟩ := (scan_mem N _).1 (List.getElem_mem hk)
  have hi : (scan w f N).1.idxOf (scan w f N).1[k] = k := List.Nodup.idxOf_getElem (scan_nodup N) k hk
  rw [← e, h m hm, num_stable hm, e, hi]
structure IsBox (w : Nat) (f : Nat → Int) (n : Nat) (x : Int) (b : Box) : Prop where
  all : ∀ m, m < n → f m = x → b.1 ≤ (m / w : Nat) ∧ ((m / w : Nat) : Int) < b.1 + b.2.2.1 ∧ b.2.1 ≤ (m % w : Nat) ∧ ((m % w : Nat) : Int) < b.2.1 + b.2.2.2
  top : ∃ m, m < n ∧ f m = x ∧ b.1 = (m / w : Nat)
  low : ∃ m, m < n ∧ f m = x ∧ b.1 + b.2.2.1 = (m / w : Nat) + 1
  left : ∃ m, m < n ∧ f m = x ∧ b.2.1 = (m % w : Nat)
  right : ∃ m, m < n ∧ f m = x ∧ b.2.1 + b.2.2.2 = (m % w : Nat) + 1
theorem IsBox.unique {n : Nat} {x : Int} {b c : Box} (h : IsBox w f n x b) (k : IsBox w f n x c) : b = c := by
  obtain ⟨m1, a1, a2, a3⟩ := h.top
  obtain ⟨m2, b1, b2, b3⟩ := h.low
  obtain ⟨m3, c1, c2, c3⟩ := h.left
  obtain ⟨m4, d1, d2, d3⟩ := h.right
  obtain ⟨n1, e1, e2, e3⟩ := k.top
  obtain ⟨n2, f1, f2, f3⟩ := k.low
  obtain ⟨n3, g1, g2, g3⟩ := k.left
  obtain ⟨n4, i1, i2, i3⟩ := k.right
  have := h.all n1 e1 e2
  have := h.all n2 f1 f2
  have := h.all n3 g1 g2
  have := h.all n4 i1 i2
  have := k.all m1 a1 a2
  have := k.all m2 b1 b2
  have := k.all m3 c1 c2
  have := k.all m4 d1 d2
  obtain ⟨b1', b2', b3', b4'⟩ := b
  obtain ⟨c1', c2', c3', c4'⟩ := c
  dsimp only at *
  have e1 : b1' = c1' := by omega
  have e2 : b2' = c2' := by omega
  have e3 : b3' = c3' := by omega
  have e4 : b4' = c4' := by omega
  rw [e1, e2, e3, e4]
theorem isBox_new {n : Nat} (hnew : ∀ m, m < n → f m ≠ f n) : IsBox w f (n + 1) (f n) (bothB (cellBox w n) (cellBox w n)) := by
  have hb : bothB (cellBox w n) (cellBox w n) = cellBox w n := by
    unfold bothB cellBox
    simp only [Int.min_self, Int.max_self]
    simp
    omega
  rw [hb]
  refine ⟨fun m hm e => ?_, ⟨n, by omega, rfl, rfl⟩, ⟨n, by omega, rfl, rfl⟩, ⟨n, by omega, rfl, rfl⟩, ⟨n, by omega, rfl, rfl⟩⟩
  have : m = n := by
    by_cases h : m < n
    · exact absurd e (hnew m h)
    · omega
  subst this
  unfold cellBox
  dsimp only
  omega
theorem isBox_more {n : Nat} {b : Box} (h : IsBox w f n (f n) b) : IsBox w f (n + 1) (f n) (bothB b (cellBox w n)) := by
  obtain ⟨all, ⟨m1, a1, a2, a3⟩, ⟨m2, b1, b2, b3⟩, ⟨m3, c1, c2, c3⟩, ⟨m4, d1, d2, d3⟩⟩ := h
  have t1 := all m1 a1 a2
  have t2 := all m2 b1 b2
  have t3 := all m3 c1 c2
  have t4 := all m4 d1 d2
  obtain ⟨b1', b2', b3', b4'⟩ := b
  unfold bothB cellBox
  dsimp only at *
  refine ⟨fun m hm e => ?_, ?_, ?_, ?_, ?_⟩
  · by_cases hmn : m = n
    · subst hmn; dsimp only; omega
    · have := all m (by omega) e
      dsimp only
      omega
  · by_cases h : b1' ≤ ((n / w : Nat) : Int)
    · exact ⟨m1, by omega, a2, by dsimp only; omega⟩
    · exact ⟨n, by omega, rfl, by dsimp only; omega⟩
  · by_cases h : ((n / w : Nat) : Int) + 1 ≤ b1' + b3'
    · exact ⟨m2, by omega, b2, by dsimp only; omega⟩
    · exact ⟨n, by omega, rfl, by dsimp only; omega⟩
  · by_cases h : b2' ≤ ((n % w : Nat) : Int)
    · exact ⟨m3, by omega, c2, by dsimp only; omega⟩
    · exact ⟨n, by omega, rfl, by dsimp only; omega⟩
  · by_cases h : ((n % w : Nat) : Int) + 1 ≤ b2' + b4'
    · exact ⟨m4, by omega, d2, by dsimp only; omega⟩
    · exact ⟨n, by omega, rfl, by dsimp only; omega⟩
theorem isBox_other {n : Nat} {x : Int} {b : Box} (hx : f n ≠ x) (h : IsBox w f n x b) : IsBox w f (n + 1) x b := by
  obtain ⟨all, ⟨m1, a1, a2, a3⟩, ⟨m2, b1, b2, b3⟩, ⟨m3, c1, c2, c3⟩, ⟨m4, d1, d2, d3⟩⟩ := h
  refine ⟨fun m hm e => all m ?_ e, ⟨m1, by omega, a2, a3⟩, ⟨m2, by omega, b2, b3⟩, ⟨m3, by omega, c2, c3⟩, ⟨m4, by omega, d2, d3⟩⟩
  by_cases h : m = n
  · subst h; exact absurd e hx
  · omega
theorem scan_box (n : Nat) : ∀ (k : Nat) (h1 : k < (scan w f n).1.length) (h2 : k < (scan w f n).2.length), IsBox w f n (scan w f n).1[k] (scan w f n).2[k] := by
  induction n with
  | zero => intro k h1; exact absurd h1 (by simp [scan])
  | succ n ih =>
    intro k h1 h2
    have hlen := scan_len (w := w) (f := f) n
    by_cases hmem : f n ∈ (scan w f n).1
    · have hE : scan w f (n + 1) = ((scan w f n).1, (scan w f n).2.set ((scan w f n).1.idxOf (f n)) (bothB ((scan w f n).2.getD ((scan w f n).1.idxOf (f n)) (0, 0, 0, 0)) (cellBox w n))) := by
        show stepX _ _ _ = _
        unfold stepX addX
        rw [if_pos hmem]
      have hil : (scan w f n).1.idxOf (f n) < (scan w f n).1.length := List.idxOf_lt_length_of_mem hmem
      have hget : (scan w f n).1[(scan w f n).1.idxOf (f n)] = f n := List.getElem_idxOf hil
      simp only [hE] at h1 h2 ⊢
      rw [List.getElem_set]
      split
      · rename_i e
        subst e
        rw [hget, List.getD_eq_getElem?_getD, List.getElem?_eq_getElem (by omega), Option.getD_some]
        have := ih _ hil (by omega)
        rw [hget] at this
        exact isBox_more this
      · rename_i e
        refine isBox_other (fun he => e ?_) (ih k h1 (by omega))
        rw [he, List.Nodup.idxOf_getElem (scan_nodup n) k h1]
    · have hE : scan w f (n + 1) = ((scan w f n).1 ++ [f n], ((scan w f n).2 ++ [cellBox w n]).set ((scan w f n).1.idxOf (f n)) (bothB (((scan w f n).2 ++ [cellBox w n]).getD ((scan w f n).1.idxOf (f n)) (0, 0, 0, 0)) (cellBox w n))) := by
        show stepX _ _ _ = _
        unfold stepX addX
        rw [if_neg hmem]
      have hidx : (scan w f n).1.idxOf (f n) = (scan w f n).1.length := List.idxOf_eq_length hmem
      simp only [hE, hidx] at h1 h2 ⊢
      rw [List.getElem_set]
      split
      · rename_i e
        subst e
        have hg : ((scan w f n).2 ++ [cellBox w n]).getD (scan w f n).1.length (0, 0, 0, 0) = cellBox w n := by
          rw [List.getD_eq_getElem?_getD, hlen]; simp
        have hx : ((scan w f n).1 ++ [f n])[(scan w f n).1.length]'(by simp) = f n := by simp
        have hnew := isBox_new (w := w) (f := f) (n := n) (fun m hm e => hmem ((scan_mem n _).2 ⟨m, hm, e⟩))
        simp only [hg, hx]
        exact hnew
      · rename_i e
        have hk : k < (scan w f n).1.length := by simp at h1; omega
        rw [List.getElem_append_left hk, List.getElem_append_left (by omega)]
        refine isBox_other (fun he => hmem ?_) (ih k hk (by omega))
        rw [he]; exact List.getElem_mem hk
end
end Go.Proofs.Ytbpppchkgjcahaa
end
section
namespace Go.Proofs.Ytbpppchkgjcahaa
open Go.RowKit
set_option linter.unusedVariables false
def sumTo (F : Nat → Nat) : Nat → Nat
  | 0 => 0
  | n + 1 => sumTo F n + F n
theorem sumTo_add (F : Nat → Nat) (a b : Nat) : sumTo F (a + b) = sumTo F a + sumTo (fun c => F (a + c)) b := by
  induction b with
  | zero => rfl
  | succ b ih =>
    rw [← Nat.add_assoc]
    show sumTo F (a + b) + F (a + b) = _ + (sumTo _ b + F (a + b))
    rw [ih]; omega
theorem sumTo_le {F G : Nat → Nat} {n : Nat} (h : ∀ m, m < n → F m ≤ G m) : sumTo F n ≤ sumTo G n := by
  induction n with
  | zero => exact Nat.le_refl _
  | succ n ih =>
    have h1 := ih (fun m hm => h m (by omega))
    have h2 := h n (by omega)
    show sumTo F n + F n ≤ sumTo G n + G n
    omega
theorem sumTo_range (lo k w : Nat) : sumTo (fun c => if lo ≤ c ∧ c < lo + k then 1 else 0) w ≤ min k (w - lo) := by
  induction w with
  | zero => exact Nat.zero_le _
  | succ w ih =>
    show sumTo _ w + (if lo ≤ w ∧ w < lo + k then 1 else 0) ≤ _
    split
    · omega
    · omega
theorem sumTo_rows (F : Nat → Nat) (w h B : Nat) (lo k : Nat) (hr : ∀ i, i < h → sumTo (fun c => F (i * w + c)) w ≤ if lo ≤ i ∧ i < lo + k then B else 0) : sumTo F (h * w) ≤ min k (h - lo) * B := by
  induction h with
  | zero => simp [sumTo]
  | succ h ih =>
    rw [Nat.succ_mul, sumTo_add]
    have h1 := ih (fun i hi => hr i (by omega))
    have h2 := hr h (by omega)
    split at h2
    · have : min k (h + 1 - lo) * B = min k (h - lo) * B + B := by
        rw [show min k (h + 1 - lo) = min k (h - lo) + 1 by omega, Nat.succ_mul]
      omega
    · have : min k (h - lo) * B ≤ min k (h + 1 - lo) * B := Nat.mul_le_mul_right _ (by omega)
      omega
def cntX (f : Nat → Int) (x : Int) (n : Nat) : Nat := sumTo (fun m => if f m = x then 1 else 0) n
theorem div_row {w i c : Nat} (hc : c < w) : (i * w + c) / w = i ∧ (i * w + c) % w = c := by
  constructor
  · rw [Nat.add_comm, Nat.add_mul_div_right _ _ (by omega), Nat.div_eq_of_lt hc]; omega
  · rw [Nat.add_comm, Nat.add_mul_mod_self_right, Nat.mod_eq_of_lt hc]
theorem box_nonneg {w : Nat} {f : Nat → Int} {n : Nat} {x : Int} {b : Box} (h : IsBox w f n x b) : 0 ≤ b.1 ∧ 0 ≤ b.2.1 ∧ 1 ≤ b.2.2.1 ∧ 1 ≤ b.2.2.2 := by
  obtain ⟨m1, a1, a2, a3⟩ := h.top
  obtain ⟨m3, c1, c2, c3⟩ := h.left
  have h1 := h.all m1 a1 a2
  have h2 := h.all m3 c1 c2
  exact ⟨by rw [a3]; exact Int.natCast_nonneg _, by rw [c3]; exact Int.natCast_nonneg _, by omega, by omega⟩
theorem cnt_le_area {w h : Nat} {f : Nat → Int} {x : Int} {b : Box} (hb : IsBox w f (h * w) x b) : (cntX f x (h * w) : Int) ≤ areaB b := by
  obtain ⟨p1, p2, p3, p4⟩ := box_nonneg hb
  obtain ⟨b1, b2, b3, b4⟩ := b
  dsimp only at *
  obtain ⟨r, rfl⟩ := Int.eq_ofNat_of_zero_le p1
  obtain ⟨l, rfl⟩ := Int.eq_ofNat_of_zero_le p2
  obtain ⟨k, rfl⟩ := Int.eq_ofNat_of_zero_le (show 0 ≤ b3 by omega)
  obtain ⟨v, rfl⟩ := Int.eq_ofNat_of_zero_le (show 0 ≤ b4 by omega)
  have hs : cntX f x (h * w) ≤ min k (h - r) * v := by
    unfold cntX
    refine sumTo_rows _ w h v r k (fun i hi => ?_)
    split
    · rename_i hin
      refine Nat.le_trans (sumTo_le (G := fun c => if l ≤ c ∧ c < l + v then 1 else 0) (fun c hc => ?_)) (Nat.le_trans (sumTo_range l v w) (Nat.min_le_left _ _))
      split
      · rename_i hx
        have hlt : i * w + c < h * w := by
          have : (i + 1) * w ≤ h * w := Nat.mul_le_mul_right _ hi
          rw [Nat.succ_mul] at this; omega
        have := hb.all _ hlt hx
        rw [(div_row hc).1, (div_row hc).2] at this
        dsimp only at this
        rw [if_pos (by omega)]
        exact Nat.le_refl _
      · exact Nat.zero_le _
    · rename_i hin
      have : sumTo (fun c => if f (i * w + c) = x then 1 else 0) w ≤ sumTo (fun _ => 0) w := sumTo_le (fun c hc => by
        split
        · rename_i hx
          have hlt : i * w + c < h * w := by
            have : (i + 1) * w ≤ h * w := Nat.mul_le_mul_right _ hi
            rw [Nat.succ_mul] at this; omega
          have := hb.all _ hlt hx
          rw [(div_row hc).1, (div_row hc).2] at this
          dsimp only at this
          omega
        · exact Nat.le_refl _)
      have hz : ∀ w, sumTo (fun _ => 0) w = 0 := fun w => by induction w with
        | zero => rfl
        | succ w ih => show sumTo _ w + 0 = 0; rw [ih]
      rw [hz] at this
      omega
  have h2 : min k (h - r) * v ≤ k * v := Nat.mul_le_mul_right _ (Nat.min_le_left _ _)
  show ((cntX f x (h * w) : Nat) : Int) ≤ (k : Int) * (v : Int)
  have h3 : ((k * v : Nat) : Int) = (k : Int) * (v : Int) := by push_cast; rfl
  omega
theorem cnt_one (l : List Int) (hn : l.Nodup) (y : Int) : (l.map fun x => if y = x then (1 : Nat) else 0).sum = if y ∈ l then 1 else 0 := by
  induction l with
  | nil => rfl
  | cons a t ih =>
    rw [List.nodup_cons] at hn
    rw [List.map_cons, List.sum_cons, ih hn.2]
    by_cases e : y = a
    · subst e
      rw [if_pos rfl, if_neg hn.1, if_pos (by simp)]
    · rw [if_neg e]
      by_cases h : y ∈ t
      · rw [if_pos h, if_pos (by simp [h])]
      · rw [if_neg h, if_neg (by simp [e, h])]
theorem sum_map_add (l : List Int) (F G : Int → Nat) : (l.map fun x => F x + G x).sum = (l.map F).sum + (l.map G).sum := by
  induction l with
  | nil => rfl
  | cons a t ih => simp only [List.map_cons, List.sum_cons, ih]; omega
theorem cnt_sum (f : Nat → Int) (l : List Int) (hn : l.Nodup) (n : Nat) (hm : ∀ m, m < n → f m ∈ l) : (l.map fun x => cntX f x n).sum = n := by
  induction n with
  | zero =>
    have : (l.map fun x => cntX f x 0) = l.map fun _ => 0 := rfl
    rw [this]
    clear hn hm this
    induction l with
    | nil => rfl
    | cons a t ih => simp only [List.map_cons, List.sum_cons, ih]
  | succ n ih =>
    have e : (l.map fun x => cntX f x (n + 1)) = l.map fun x => cntX f x n + (if f n = x then 1 else 0) := rfl
    rw [e, sum_map_add, ih (fun m hm' => hm m (by omega)), cnt_one l hn, if_pos (hm n (by omega))]
theorem sum_eq_all {α : Type} (l : List α) (F G : α → Int) (hle : ∀ x ∈ l, F x ≤ G x) : (l.map F).sum = (l.map G).sum ↔ ∀ x ∈ l, F x = G x := by
  have hs : ∀ t : List α, (∀ x ∈ t, F x ≤ G x) → (t.map F).sum ≤ (t.map G).sum := fun t => by
    induction t with
    | nil => intro _; exact Int.le_refl _
    | cons a t ih =>
      intro h
      simp only [List.map_cons, List.sum_cons]
      have := ih (fun x hx => h x (by simp [hx]))
      have := h a (by simp)
      omega
  induction l with
  | nil => simp
  | cons a t ih =>
    have h1 := hle a (by simp)
    have h2 := hs t (fun x hx => hle x (by simp [hx]))
    have h3 := ih (fun x hx => hle x (by simp [hx]))
    simp only [List.map_cons, List.sum_cons, List.mem_cons, forall_eq_or_imp]
    constructor
    · intro h
      exact ⟨by omega, h3.1 (by omega)⟩
    · rintro ⟨ha, hb⟩
      rw [ha, h3.2 hb]
theorem sum_cast {α : Type} (l : List α) (F : α → Nat) : ((l.map F).sum : Int) = (l.map fun x => (F x : Int)).sum := by
  induction l with
  | nil => rfl
  | cons a t ih => simp only [List.map_cons, List.sum_cons]; rw [← ih]; push_cast; rfl
theorem area_all (w h : Nat) (f : Nat → Int) :
    ((scan w f (h * w)).2.map areaB).sum = ((h * w : Nat) : Int) ↔ ∀ (k : Nat) (h1 : k < (scan w f (h * w)).1.length) (h2 : k < (scan w f (h * w)).2.length), (cntX f (scan w f (h * w)).1[k] (h * w) : Int) = areaB (scan w f (h * w)).2[k] := by
  have hlen := scan_len (w := w) (f := f) (h * w)
  have hz : ((List.range (scan w f (h * w)).1.length).map fun k => areaB ((scan w f (h * w)).2.getD k (0, 0, 0, 0))) = (scan w f (h * w)).2.map areaB := by
    apply List.ext_getElem
    · simp [hlen]
    · intro i a1 a2
      simp at a2
      simp [a2]
  have hc : ((List.range (scan w f (h * w)).1.length).map fun k => cntX f ((scan w f (h * w)).1.getD k 0) (h * w)) = (scan w f (h * w)).1.map fun x => cntX f x (h * w) := by
    apply List.ext_getElem
    · simp
    · intro i a1 a2
      simp at a2
      simp [a2]
  have hs := cnt_sum f (scan w f (h * w)).1 (scan_nodup _) (h * w) (fun m hm => (scan_mem _ _).2 ⟨m, hm, rfl⟩)
  rw [← hc] at hs
  have hs' : ((List.range (scan w f (h * w)).1.length).map fun k => (cntX f ((scan w f (h * w)).1.getD k 0) (h * w) : Int)).sum = ((h * w : Nat) : Int) := by
    rw [← sum_cast, hs]
  rw [← hz, ← hs']
  have key := sum_eq_all (List.range (scan w f (h * w)).1.length) (fun k => (cntX f ((scan w f (h * w)).1.getD k 0) (h * w) : Int)) (fun k => areaB ((scan w f (h * w)).2.getD k (0, 0, 0, 0))) (fun k hk => by
    have hk := List.mem_range.1 hk
    have hb := scan_box (w := w) (f := f) (h * w) k hk (by omega)
    have := cnt_le_area hb
    simpa [hk, show k < (scan w f (h * w)).2.length by omega] using this)
  constructor
  · intro h0 k h1 h2
    have := key.1 h0.symm k (List.mem_range.2 h1)
    simpa [h1, h2] using this
  · intro h0
    exact (key.2 fun k hk => by
      have hk := List.mem_range.1 hk
      have := h0 k hk (by omega)
      simpa [hk, show k < (scan w f (h * w)).2.length by omega] using this).symm
end Go.Proofs.Ytbpppchkgjcahaa
end
section
namespace Go.Proofs.Ytbpppchkgjcahaa
open Go.RowKit Go.Shelf Go.Proofs.YtbpppchkgjcahaaW.PrintWords Go.Proofs.YtbpppchkgjcahaaW.PrintMore
attribute [local go_sem] max2_int min2_int max_two min_two max_three min_three max_four min_four
set_option linter.unusedVariables false
def boxV (b : Box) : Value := .agg #[.int .i64 b.1, .int .i64 b.2.1, .int .i64 b.2.2.1, .int .i64 b.2.2.2]
def BoxIn (b : Box) : Prop := (0 ≤ b.1 ∧ b.1 ≤ 1000) ∧ (0 ≤ b.2.1 ∧ b.2.1 ≤ 1000) ∧ (0 ≤ b.2.2.1 ∧ b.2.2.1 ≤ 1000) ∧ (0 ≤ b.2.2.2 ∧ b.2.2.2 ≤ 1000)
set_option maxRecDepth 100000 in
set_option maxHeartbeats 4000000 in
theorem area_any (b : Box) (hb : BoxIn b) (w : World) :
    Calls Try.prog 202 #[boxV b] w fun e w' => e = .returned (.int .i64 (areaB b)) ∧ Below w.heap.size w w' := by
  obtain ⟨b0, b1, b2, b3⟩ := b
  obtain ⟨h0, h1, ⟨h2, h3⟩, ⟨h4, h5⟩⟩ := hb
  dsimp only at h2 h3 h4 h5
  have h6 : 0 ≤ b2 * b3 := Int.mul_nonneg h2 h4
  have h7 : b2 * b3 ≤ 1000 * 1000 := Int.mul_le_mul h3 h5 h4 (by omega)
  unfold boxV areaB
  dsimp only
  go_enter Try.func202, Try.ntmps202
  go_wp2
  go_ret
  exact ⟨rfl, (Below.refl _ _).alloc (Nat.le_refl _) _⟩
set_option maxRecDepth 100000 in
set_option maxHeartbeats 8000000 in
theorem both_any (b c : Box) (hb : BoxIn b) (hc : BoxIn c) (w : World) :
    Calls Try.prog 178 #[boxV b, boxV c] w fun e w' => e = .returned (boxV (bothB b c)) ∧ Below w.heap.size w w' := by
  obtain ⟨b0, b1, b2, b3⟩ := b
  obtain ⟨c0, c1, c2, c3⟩ := c
  obtain ⟨⟨p0, p1⟩, ⟨p2, p3⟩, ⟨p4, p5⟩, ⟨p6, p7⟩⟩ := hb
  obtain ⟨⟨q0, q1⟩, ⟨q2, q3⟩, ⟨q4, q5⟩, ⟨q6, q7⟩⟩ := hc
  dsimp only at p0 p1 p2 p3 p4 p5 p6 p7 q0 q1 q2 q3 q4 q5 q6 q7
  unfold boxV bothB
  dsimp only
  go_enter Try.func178, Try.ntmps178
  go_wp2
  go_quiet (fail)
  go_wp2
  all_goals
    refine bodyPost_ret (v := .agg #[.int .i64 (min b0 c0), .int .i64 (min b1 c1), .int .i64 (max (b0 + b2) (c0 + c2) - min b0 c0), .int .i64 (max (b1 + b3) (c1 + c3) - min b1 c1)]) (by simp [results, Try.results178, go_sem]; omega) rfl ⟨rfl, ?_⟩
    repeat (first | exact Below.refl _ _ | refine Below.setCell (B := w.heap.size) (p := ⟨w.heap.size + 1 + 1, _, none⟩) ?_ (by show w.heap.size ≤ w.heap.size + 1 + 1; omega) _ | apply pw_below_drewN | apply below_alloc)
end Go.Proofs.Ytbpppchkgjcahaa
end
section
namespace Go.Proofs.Ytbpppchkgjcahaa
open Go.RowKit Go.Shelf Go.Maps
set_option linter.unusedVariables false
theorem mlaw : Keyed Try.prog 3 := int_keyed Try.underlying3
theorem mzero (w : World) : (zeroValue 3).run Try.prog w = .ok (.int .i64 0) w := by kernel_rfl
theorem mkey {x : Int} (hx : 0 ≤ x ∧ x ≤ 1000) : keyOf Try.prog 3 (.int .i64 x) = some (.int .i64 x) := keyOf_int_mk Try.underlying3 (by
  show (decide (IntKind.i64.min ≤ x) && decide (x ≤ IntKind.i64.max)) = true
  rw [Bool.and_eq_true, decide_eq_true_eq, decide_eq_true_eq]
  show -9223372036854775808 ≤ x ∧ x ≤ 9223372036854775807
  omega)
theorem mwf {x : Int} (hx : 0 ≤ x ∧ x ≤ 1000) : (Lit.int .i64 x).wf = true := by
  show (decide (IntKind.i64.min ≤ x) && decide (x ≤ IntKind.i64.max)) = true
  rw [Bool.and_eq_true, decide_eq_true_eq, decide_eq_true_eq]
  show -9223372036854775808 ≤ x ∧ x ≤ 9223372036854775807
  omega
def MapOf (W : World) (mb : Nat) (ord : List Int) : Prop := ∃ D : DataW Unit, W.ownsMap Try.prog 3 (plainElem Try.prog 3) mb ord.length D ∧ Tidy D ∧ size D = ord.length ∧
  (∀ x : Int, x ∈ ord → has D (.int .i64 x) = true ∧ ∀ z, D.atKey (.int .i64 x) z = .lit (.int .i64 (ord.idxOf x : Nat))) ∧ ∀ x : Int, x ∉ ord → has D (.int .i64 x) = false
theorem MapOf.made (W : World) : MapOf (W.alloc (.map #[] 0)) W.heap.size [] :=
  ⟨.map [], World.ownsMap_made W _ _ _, ⟨[], rfl, List.Pairwise.nil⟩, rfl, fun x hx => (by simp at hx), fun x hx => rfl⟩
theorem MapOf.move {W W' : World} {mb : Nat} {ord : List Int} (h : MapOf W mb ord) (hm : W'.heap[mb]? = W.heap[mb]?) : MapOf W' mb ord := by
  obtain ⟨D, ⟨es, clock, hb, r⟩, r2⟩ := h
  exact ⟨D, ⟨es, clock, hm.trans hb, r⟩, r2⟩
theorem MapOf.lt {W : World} {mb : Nat} {ord : List Int} (h : MapOf W mb ord) : mb < W.heap.size := by
  obtain ⟨D, h1, _⟩ := h
  exact h1.lt
theorem MapOf.obj {W : World} {mb : Nat} {ord : List Int} (h : MapOf W mb ord) : ∃ es clock, W.heap[mb]? = some (.map es clock) := by
  obtain ⟨D, ⟨es, clock, hb, r⟩, r2⟩ := h
  exact ⟨es, clock, hb⟩
theorem MapOf.look {W : World} {mb : Nat} {ord : List Int} (h : MapOf W mb ord) {x : Int} (hx : 0 ≤ x ∧ x ≤ 1000) :
    (Instr.lookup 196 (.map (some mb)) (.int .i64 x) true).run Try.prog W = .ok (.tuple #[.int .i64 (if x ∈ ord then (ord.idxOf x : Nat) else 0), .bool (decide (x ∈ ord))]) W := by
  obtain ⟨D, h1, h2, h3, h4, h5⟩ := h
  obtain ⟨v, ps, hrun, hv⟩ := h1.look_ok (zd := (DataW.lit (.int .i64 0) : DataW Unit)) (zp := []) mlaw Try.underlying196 (mzero W) (plainElem_int Try.underlying3 (by decide)) (mkey hx)
  by_cases hm : x ∈ ord
  · rw [(h4 x hm).2] at hv
    obtain ⟨c, rfl, hc, hwc⟩ := plainElem_int_inv Try.underlying3 hv
    have : ((ord.idxOf x : Nat) : Int) = c := by
      have := congrArg Prod.fst hc
      simp at this
      exact this
    rw [hrun, (h4 x hm).1, if_pos hm, this, decide_eq_true hm]
  · rw [atKey_of_not_has (h5 x hm)] at hv
    obtain ⟨c, rfl, hc, hwc⟩ := plainElem_int_inv Try.underlying3 hv
    have : (0 : Int) = c := by
      have := congrArg Prod.fst hc
      simp at this
      exact this
    rw [hrun, h5 x hm, if_neg hm, ← this, decide_eq_false hm]
theorem MapOf.len {W : World} {mb : Nat} {ord : List Int} (h : MapOf W mb ord) (ty : TypeId) : (Builtin.len_ #[196] ty #[.map (some mb)]).run Try.prog W = .ok (.int .i64 (ord.length : Nat)) W := by
  obtain ⟨D, h1, h2, h3, _⟩ := h
  rw [h1.len Try.underlying196 ty, h3]
section
variable {ops : Array Oper} {rest : List Oper} {o : Oper} {a : Act} {Q : Exit → Act → World → Prop}
theorem MapOf.put (w : World) (hg : o.guard = none) (m x v : Operand) (hop : o.op = Op.mapUpdate 196 m x v) (mb : Nat) (ord : List Int) (h : MapOf w mb ord) (hl : ord.length ≤ 1000)
    (y : Int) (hy : 0 ≤ y ∧ y ≤ 1000) (hn : y ∉ ord) (hm : a.eval m = .map (some mb)) (hx : a.eval x = .int .i64 y) (hv : a.eval v = .int .i64 (ord.length : Nat))
    (hK : ∀ w', MapOf w' mb (ord ++ [y]) → w.grownBy w' (some mb) → wpList Try.prog ops Q rest (a.put o.dst undef) w') :
    wpList Try.prog ops Q (o :: rest) a w := by
  obtain ⟨D, h1, h2, h3, h4, h5⟩ := h
  have hkl : WideAt.IsKeyLit (.int .i64 y) := mlaw.key (mkey hy)
  refine wpList_mapUpdate_own w hg m x v 196 hop 3 3 mlaw Try.underlying196 _ mb ord.length D hm h1 (by unfold maxLen; omega) _ _ _ hx hv (mkey hy) (.lit (.int .i64 (ord.length : Nat))) [] (plainElem_int Try.underlying3 (mwf ⟨by omega, by omega⟩)) ?_
  intro w' hown hgr
  refine hK w' ⟨D.put (.int .i64 y) (.lit (.int .i64 (ord.length : Nat))), ?_, h2.put hkl _, ?_, ?_, ?_⟩ hgr
  · rw [List.length_append]; exact hown
  · rw [size_put h2, h5 y hn, List.length_append, h3]; rfl
  · intro z hz
    by_cases e : z = y
    · subst e
      refine ⟨has_put_same (h2.isMap) hkl _, fun z0 => ?_⟩
      rw [atKey_put_same (h2.isMap) hkl, List.idxOf_append, if_neg hn]
      simp
    · have hz' : z ∈ ord := by
        rcases List.mem_append.1 hz with hz | hz
        · exact hz
        · simp at hz; exact absurd hz e
      have hne : (Lit.int .i64 z : Lit) ≠ .int .i64 y := fun h => e (by injection h)
      refine ⟨by rw [has_put_other hne]; exact (h4 z hz').1, fun z0 => ?_⟩
      rw [atKey_put_other hne, (h4 z hz').2, List.idxOf_append, if_pos hz']
  · intro z hz
    simp at hz
    have hne : (Lit.int .i64 z : Lit) ≠ .int .i64 y := fun h => hz.2 (by injection h)
    rw [has_put_other hne]
    exact h5 z hz.1
end
end Go.Proofs.Ytbpppchkgjcahaa
end
