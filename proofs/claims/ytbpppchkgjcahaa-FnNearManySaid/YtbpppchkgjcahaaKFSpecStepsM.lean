/- Texts of this claim's, joined by a program: FSpecSteps, FSpecNearW. -/
import Derived.Test.YtbpppchkgjcahaaKFSpecNear
import Derived.Deep.RegionHeld3
section
namespace Go.Proofs.Ytbpppchkgjcahaa
open Go.RowKit Go.Shelf Go.Proofs.YtbpppchkgjcahaaW.PrintWords Go.Proofs.YtbpppchkgjcahaaW.PrintMore
set_option linter.unusedVariables false
set_option linter.unusedSimpArgs false
def NumsC (W : World) (g n : Nat) (o : Nat → Int) : Prop := ∃ cs : Array Value, W.heap[g]? = some (.cells cs 3 (0, 0)) ∧ n ≤ cs.size ∧ ∀ j, j < n → cs[j]? = some (.int .i64 (o j))
theorem NumsC.lt {W : World} {g n : Nat} {o : Nat → Int} (h : NumsC W g n o) : g < W.heap.size := by
  obtain ⟨cs, h1, _⟩ := h
  exact (Array.getElem?_eq_some_iff.1 h1).1
theorem NumsC.at {W : World} {g n : Nat} {o : Nat → Int} (h : NumsC W g n o) {b : Nat} (hb : b < n) : W.cell? ⟨g, b, none⟩ = some (.int .i64 (o b)) ∧ W.frozen? ⟨g, b, none⟩ = false := by
  obtain ⟨cs, h1, h2, h3⟩ := h
  exact ⟨by rw [Lib.cell_of_heap h1]; exact h3 b hb, Lib.frozen_of_heap h1 b⟩
theorem NumsC.keep {W W' : World} {g n : Nat} {o : Nat → Int} (h : NumsC W g n o) (hk : W'.heap[g]? = W.heap[g]?) : NumsC W' g n o := by
  obtain ⟨cs, h1, h2⟩ := h
  exact ⟨cs, by rw [hk]; exact h1, h2⟩
theorem NumsC.set {W : World} {g n : Nat} {o : Nat → Int} (h : NumsC W g n o) {b : Nat} (hb : b < n) (v : Int) : NumsC (W.setCell ⟨g, b, none⟩ (.int .i64 v)) g n (fun x => if x = b then v else o x) := by
  obtain ⟨cs, h1, h2, h3⟩ := h
  refine ⟨_, blk_set h1 b (.int .i64 v), by rw [Array.size_setIfInBounds]; exact h2, fun j hj => ?_⟩
  rw [Array.getElem?_setIfInBounds]
  show _ = some (Value.int .i64 (if j = b then v else o j))
  by_cases e : j = b
  · subst e; rw [if_pos rfl, if_pos (by omega), if_pos rfl]
  · rw [if_neg (fun hh => e hh.symm), if_neg e]; exact h3 j hj
theorem NumsC.same {W : World} {g n : Nat} {o o' : Nat → Int} (h : NumsC W g n o) (e : ∀ x, x < n → o x = o' x) : NumsC W g n o' := by
  obtain ⟨cs, h1, h2, h3⟩ := h
  exact ⟨cs, h1, h2, fun j hj => by rw [← e j hj]; exact h3 j hj⟩
end Go.Proofs.Ytbpppchkgjcahaa
end
section
namespace Go.Proofs.Ytbpppchkgjcahaa
open Go.RowKit Go.Shelf Go.Proofs.YtbpppchkgjcahaaW.PrintWords Go.Proofs.YtbpppchkgjcahaaW.PrintMore
set_option linter.unusedVariables false
set_option linter.unusedSimpArgs false
theorem specNearMany_any (A : Option Addr) (cap : Nat) (p : List ByteArray) (hp : SmallP p) (w : World) (hr0 : Kd.C Kd.string w A p.length p) (hc0 : p.length ≤ cap) :
    Calls Try.prog 37 #[.slice A p.length cap] w fun e w' => e = .returned (.tuple #[.int .i64 (manyNP p).1, .bool (manyNP p).2]) ∧ Below w.heap.size w w' := by
  obtain ⟨k, hk⟩ := (many_ev p hp).ex
  exact L12.spec_NearMany.calls k A cap p (manyNP p).1 (manyNP p).2 w hr0 hc0 hk
end Go.Proofs.Ytbpppchkgjcahaa
end
