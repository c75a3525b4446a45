/- The program's alone and whole. -/
import Derived.Test.YtiehiockjlhbcaaKShelfM
namespace Go.Proofs.Ytiehiockjlhbcaa
open Go.RowKit Go.Shelf Go.Proofs.YtiehiockjlhbcaaW.PrintWords Go.Proofs.YtiehiockjlhbcaaW.PrintMore
set_option linter.unusedVariables false

set_option maxRecDepth 100000 in
set_option maxHeartbeats 8000000 in
theorem alone_any (fb h wd : Nat) (cl : Nat → Nat → Int) (boxes : List Box) (w : World) (hf : FloorR w fb h wd cl boxes) (b : Box) (hb : BoxIn b) (hbs : ∀ x ∈ boxes, BoxIn x) (hn : boxes.length ≤ 1000) :
    Calls Try.prog 102 #[partV fb b] w fun e w' => e = .returned (.bool (((listL boxes b boxes.length).length : Int) == 1)) ∧ Below w.heap.size w w' := by
  have HL : Aside0 (∀ W, Below w.heap.size w W → Calls Try.prog 58 #[partV fb b] W fun e w' => (∃ (A : Option Addr) (c : Nat), e = .returned (.slice A (listL boxes b boxes.length).length c) ∧ (listL boxes b boxes.length).length ≤ c ∧ Kd.C (Kd.int .i64) w' A (listL boxes b boxes.length).length (listL boxes b boxes.length)) ∧ Below W.heap.size W w') := ⟨fun W hW => list_any fb h wd cl boxes W (hf.below hW) b hb hbs hn⟩
  obtain ⟨b0, b1, b2, b3⟩ := b
  have HLen : Aside0 ((listL boxes (b0, b1, b2, b3) boxes.length).length ≤ boxes.length) := ⟨listL_len _ _ _⟩
  obtain ⟨n, hn2⟩ : ∃ n, (listL boxes (b0, b1, b2, b3) boxes.length).length = n := ⟨_, rfl⟩
  rw [hn2] at HLen HL ⊢
  have hn3 := HLen.out
  clear hf hb hbs hn2 HLen
  unfold partV at HL ⊢
  dsimp only at HL ⊢
  go_enter Try.func102, Try.ntmps102
  go_wp2_with (
    go_at_call 58
    refine (HL.out _ ((Below.refl _ _).alloc (Nat.le_refl _) _)).mono ?_
    rintro e w2 ⟨⟨A, c, rfl, hc, hC⟩, hb2⟩
    have HB2 := Aside0.mk hb2
    clear hC hb2)
  go_ret
  exact ⟨rfl, ((Below.refl _ _).alloc (Nat.le_refl _) _).trans (HB2.out.mono (by simp))⟩
set_option maxRecDepth 100000 in
set_option maxHeartbeats 8000000 in
theorem whole_any (fb h wd : Nat) (cl : Nat → Nat → Int) (boxes : List Box) (w : World) (hf : FloorR w fb h wd cl boxes) (hh : 1 ≤ h ∧ h ≤ 1000) (hwd : wd ≤ 1000) :
    Calls Try.prog 50 #[.pointer (some ⟨fb, 0, none⟩)] w fun e w' => e = .returned (partV fb (natB 0 0 h wd)) ∧ Below w.heap.size w w' := by
  obtain ⟨g, rb, RA, rc, h1, h2, h3, h4, h5, h6⟩ := hf
  obtain ⟨a1, a2, a3⟩ := h5 0 (by omega)
  have HHI : Aside0 (∀ W, Below w.heap.size w W → Calls Try.prog 85 #[.pointer (some ⟨fb, 0, none⟩)] W fun e w' => e = .returned (.int .i64 h) ∧ w' = W) := ⟨fun W hW => high_any _ _ h h W ((hW.cell (p := ⟨fb, 0, none⟩) h1).trans h3)⟩
  have HWI : Aside0 (∀ W, Below w.heap.size w W → Calls Try.prog 78 #[.pointer (some ⟨fb, 0, none⟩)] W fun e w' => e = .returned (.int .i64 wd) ∧ w' = W) := ⟨fun W hW => wide_any _ g h h hh.1 _ wd wd W ((hW.cell (p := ⟨fb, 0, none⟩) h1).trans h3) ((hW.cell (p := ⟨g, 0, none⟩) h2).trans a2)⟩
  clear h5 h6 h1 h2 h3 h4 a1 a2 a3
  unfold partV natB
  dsimp only
  go_enter Try.func50, Try.ntmps50
  go_wp2_with (first
    | (go_at_call 85
       refine (HHI.out _ ((Below.refl _ _).alloc (Nat.le_refl _) _)).mono ?_
       rintro e w2 ⟨rfl, rfl⟩)
    | (go_at_call 78
       refine (HWI.out _ ((Below.refl _ _).alloc (Nat.le_refl _) _)).mono ?_
       rintro e w2 ⟨rfl, rfl⟩))
  refine bodyPost_ret (v := .agg #[.pointer (some ⟨fb, 0, none⟩), .int .i64 0, .int .i64 0, .int .i64 h, .int .i64 wd]) (by simp [results, Try.results50, go_sem]) rfl ⟨rfl, (Below.refl _ _).alloc (Nat.le_refl _) _⟩
end Go.Proofs.Ytiehiockjlhbcaa
