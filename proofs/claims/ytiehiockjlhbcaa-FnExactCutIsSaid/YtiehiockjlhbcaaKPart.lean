/- The program's alone and whole. -/
import Derived.Test.YtiehiockjlhbcaaKList
namespace Go.Proofs.Ytiehiockjlhbcaa
open Go.RowKit Go.Shelf Go.Proofs.YtiehiockjlhbcaaW.PrintWords Go.Proofs.YtiehiockjlhbcaaW.PrintMore
set_option linter.unusedVariables false

set_option maxRecDepth 100000 in
set_option maxHeartbeats 8000000 in
theorem whole_any (fb h wd : Nat) (cl : Nat → Nat → Int) (boxes : List Box) (w : World) (hf : FloorR w fb h wd cl boxes) (hh : 1 ≤ h ∧ h ≤ 1000) (hwd : wd ≤ 1000) :
    Calls Try.prog 50 #[.pointer (some ⟨fb, 0, none⟩)] w fun e w' => e = .returned (partV fb (natB 0 0 h wd)) ∧ Below w.heap.size w w' := by
  obtain ⟨g, rb, RA, rc, h1, h2, h3, h4, h5, h6⟩ := hf
  obtain ⟨a1, a2, a3⟩ := h5 0 (by omega)
  have HHI : Aside0 (∀ W, Below w.heap.size w W → Calls Try.prog 85 #[.pointer (some ⟨fb, 0, none⟩)] W fun e w' => e = .returned (.int .i64 h) ∧ w' = W) := ⟨fun W hW => high_any _ _ h h W ((hW.cell (p := ⟨fb, 0, none⟩) h1).trans h3)⟩
  have HWI : Aside0 (∀ W, Below w.heap.size w W → Calls Try.prog 78 #[.pointer (some ⟨fb, 0, none⟩)] W fun e w' => e = .returned (.int .i64 wd) ∧ w' = W) := ⟨fun W hW => wide_any _ g h h hh.1 _ wd wd W ((hW.cell (p := ⟨fb, 0, none⟩) h1).trans h3) ((hW.cell (p := ⟨g, 0, none⟩) h2).trans a2)⟩
  clear h5 h6 h1 h2 h3 h4 a1 a2 a3
  unfold partV natB
  dsimp only
  go_enter Try.func50, Try.ntmps50
  go_wp2_with (first
    | (go_at_call 85
       refine (HHI.out _ ((Below.refl _ _).alloc (Nat.le_refl _) _)).mono ?_
       rintro e w2 ⟨rfl, rfl⟩)
    | (go_at_call 78
       refine (HWI.out _ ((Below.refl _ _).alloc (Nat.le_refl _) _)).mono ?_
       rintro e w2 ⟨rfl, rfl⟩))
  refine bodyPost_ret (v := .agg #[.pointer (some ⟨fb, 0, none⟩), .int .i64 0, .int .i64 0, .int .i64 h, .int .i64 wd]) (by simp [results, Try.results50, go_sem]) rfl ⟨rfl, (Below.refl _ _).alloc (Nat.le_refl _) _⟩
end Go.Proofs.Ytiehiockjlhbcaa
