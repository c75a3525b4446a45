/- part.list with its row as one of the call's own (a copy of list_any's walk, with another end). -/
import Derived.Test.YtiehiockjlhbcaaKShelfM
namespace Go.Proofs.Ytiehiockjlhbcaa
open Go.RowKit Go.Shelf Go.Proofs.YtiehiockjlhbcaaW.PrintWords Go.Proofs.YtiehiockjlhbcaaW.PrintMore
set_option linter.unusedVariables false
set_option maxRecDepth 100000 in
set_option maxHeartbeats 16000000 in
theorem list_own (fb h wd : Nat) (cl : Nat → Nat → Int) (boxes : List Box) (w : World) (hf : FloorR w fb h wd cl boxes) (b : Box) (hb : BoxIn b) (hbs : ∀ x ∈ boxes, BoxIn x) (hn : boxes.length ≤ 1000) :
    Calls Try.prog 58 #[partV fb b] w fun e w' => (∃ (A : Option Addr) (c : Nat), e = .returned (.slice A (listL boxes b boxes.length).length c) ∧ w'.ownsRow w.heap.size 3 1 (.slice A (listL boxes b boxes.length).length c) (listL boxes b boxes.length).length (nums .i64 (listL boxes b boxes.length))) ∧ Below w.heap.size w w' := by
  obtain ⟨b0, b1, b2, b3⟩ := b
  unfold partV
  dsimp only
  have HF := Aside0.mk hf
  have HBB := Aside0.mk hb
  have HBS := Aside0.mk hbs
  obtain ⟨g, rb, RA, rc, h1, h2, h3, h4, h5, h6⟩ := hf
  have HH1 := Aside0.mk h1
  have HH6 := Aside0.mk h6
  obtain ⟨W1, hW1⟩ : ∃ W1 : World, W1 = w.alloc (.cells #[.pointer (some ⟨fb, 0, none⟩), .int .i64 b0, .int .i64 b1, .int .i64 b2, .int .i64 b3] 52) := ⟨_, rfl⟩
  have ca : (w.alloc (.cells #[.pointer (some ⟨fb, 0, none⟩), .int .i64 b0, .int .i64 b1, .int .i64 b2, .int .i64 b3] 52)).cell? ⟨fb, 1, none⟩ = some (.slice RA boxes.length rc) := (World.cell?_of_block (Below.heap_alloc _ _ _ h1)).trans h4
  have HS1 : Aside0 (W1.heap.size = w.heap.size + 1) := ⟨by rw [hW1]; simp⟩
  have HB1 : Aside0 (Below w.heap.size w W1) := ⟨by rw [hW1]; exact (Below.refl _ _).alloc (Nat.le_refl _) _⟩
  have HT : Aside0 (W1.heap[w.heap.size]? = some (.cells #[.pointer (some ⟨fb, 0, none⟩), .int .i64 b0, .int .i64 b1, .int .i64 b2, .int .i64 b3] 52 (0, 0))) := ⟨by rw [hW1]; exact heap_alloc_new w _⟩
  have HW1 := Aside0.mk hW1
  clear h5 h6 h1 h2 h3 hb hbs hW1
  go_enter Try.func58, Try.ntmps58
  go_wp2_with fail
  rw [← HW1.out]
  go_loopw [3, 12] (fun v i wr => ∃ (k n c : Nat) (A : Option Addr), i = .int .i64 k ∧ k ≤ boxes.length ∧ v = .slice A n c ∧ Aside0 (n = (listL boxes (b0, b1, b2, b3) k).length ∧ wr.ownsRow (w.heap.size + 1) 3 1 (.slice A n c) n (nums .i64 (listL boxes (b0, b1, b2, b3) k)) ∧ Below (w.heap.size + 1) W1 wr)) (fun _ i _ => boxes.length - (intOf i).toNat)
  case atStart =>
    exact ⟨0, 0, 0, none, rfl, Nat.zero_le _, rfl, ⟨rfl, World.ownsRow_nil _ _ _ _, Below.refl _ _⟩⟩
  case round =>
    obtain ⟨k, n, c, A, rfl, hk, rfl, HD⟩ := hrel
    by_cases hlt : (k : Int) < (boxes.length : Int)
    · have hkl : k < boxes.length := by omega
      obtain ⟨rg, hRA, hrg, hrc⟩ := HH6.out (fun e => by rw [e] at hkl; simp at hkl)
      obtain ⟨c1, c2, c3, c4⟩ := hrc k hkl
      obtain ⟨⟨d0, d1, d2, d3⟩, hd⟩ : ∃ d, boxes[k] = d := ⟨_, rfl⟩
      rw [hd] at c1 c2 c3 c4
      dsimp only at c1 c2 c3 c4
      have hbl : Below w.heap.size w wr := HB1.out.trans (HD.out.2.2.mono (by omega))
      have e1 := (hbl.cell (p := ⟨rg, k * 4, none⟩) hrg).trans c1
      have e2 := (hbl.cell (p := ⟨rg, k * 4 + 1, none⟩) hrg).trans c2
      have e3 := (hbl.cell (p := ⟨rg, k * 4 + 2, none⟩) hrg).trans c3
      have e4 := (hbl.cell (p := ⟨rg, k * 4 + 3, none⟩) hrg).trans c4
      have hpart : wr.heap[w.heap.size]? = some (.cells #[.pointer (some ⟨fb, 0, none⟩), .int .i64 b0, .int .i64 b1, .int .i64 b2, .int .i64 b3] 52 (0, 0)) := by rw [HD.out.2.2.block w.heap.size (by omega)]; exact HT.out
      have hD : Aside0 (boxes[k] = (d0, d1, d2, d3)) := ⟨hd⟩
      have HBL := Aside0.mk hbl
      have HPT := Aside0.mk hpart
      have HRG := Aside0.mk hrg
      subst hRA
      clear c1 c2 c3 c4 hrc hd hbl hpart hrg ca h4
      go_wp2_with fail
      obtain ⟨W2, hW2⟩ : ∃ W2 : World, W2 = wr.alloc (.cells #[.int .i64 d0, .int .i64 d1, .int .i64 d2, .int .i64 d3] 50) := ⟨_, rfl⟩
      rw [← hW2]
      have hpw : w.heap.size < wr.heap.size := (Array.getElem?_eq_some_iff.1 HPT.out).1
      have hs2 : W2.heap.size = wr.heap.size + 1 := by rw [hW2]; simp
      have hpt2 : W2.heap[w.heap.size]? = some (.cells #[.pointer (some ⟨fb, 0, none⟩), .int .i64 b0, .int .i64 b1, .int .i64 b2, .int .i64 b3] 52 (0, 0)) := by rw [hW2, Below.heap_alloc _ _ _ hpw]; exact HPT.out
      have hrt2 : W2.heap[wr.heap.size]? = some (.cells #[.int .i64 d0, .int .i64 d1, .int .i64 d2, .int .i64 d3] 50 (0, 0)) := by rw [hW2]; exact heap_alloc_new wr _
      have p1 : W2.cell? ⟨w.heap.size, 1, none⟩ = some (.int .i64 b0) := by rw [Lib.cell_of_heap hpt2]; rfl
      have p2 : W2.cell? ⟨w.heap.size, 2, none⟩ = some (.int .i64 b1) := by rw [Lib.cell_of_heap hpt2]; rfl
      have p3 : W2.cell? ⟨w.heap.size, 3, none⟩ = some (.int .i64 b2) := by rw [Lib.cell_of_heap hpt2]; rfl
      have p4 : W2.cell? ⟨w.heap.size, 4, none⟩ = some (.int .i64 b3) := by rw [Lib.cell_of_heap hpt2]; rfl
      have q1 : W2.cell? ⟨wr.heap.size, 0, none⟩ = some (.int .i64 d0) := by rw [Lib.cell_of_heap hrt2]; rfl
      have q2 : W2.cell? ⟨wr.heap.size, 1, none⟩ = some (.int .i64 d1) := by rw [Lib.cell_of_heap hrt2]; rfl
      have q3 : W2.cell? ⟨wr.heap.size, 2, none⟩ = some (.int .i64 d2) := by rw [Lib.cell_of_heap hrt2]; rfl
      have q4 : W2.cell? ⟨wr.heap.size, 3, none⟩ = some (.int .i64 d3) := by rw [Lib.cell_of_heap hrt2]; rfl
      have HL1 : Aside0 (w.heap.size < W2.heap.size) := ⟨by omega⟩
      have HL2 : Aside0 (wr.heap.size < W2.heap.size) := ⟨by omega⟩
      have HPW := Aside0.mk hpw
      have HS2 := Aside0.mk hs2
      have HW2 := Aside0.mk hW2
      have HDB : Aside0 (BoxIn (d0, d1, d2, d3)) := ⟨by rw [← hD.out]; exact HBS.out _ (List.getElem_mem hkl)⟩
      clear hpw hs2 hpt2 hrt2 hW2 e1 e2 e3 e4
      obtain ⟨⟨m0, m1, m2, m3⟩, hm⟩ : ∃ m, bothB (b0, b1, b2, b3) (d0, d1, d2, d3) = m := ⟨_, rfl⟩
      have HBOTH : Aside0 (∀ W, Calls Try.prog 109 #[boxV (b0, b1, b2, b3), boxV (d0, d1, d2, d3)] W fun e w' => e = .returned (boxV (m0, m1, m2, m3)) ∧ Below W.heap.size W w') := ⟨fun W => by have := both_any (b0, b1, b2, b3) (d0, d1, d2, d3) HBB.out HDB.out W; rwa [hm] at this⟩
      have HM := Aside0.mk hm
      clear hm
      have hcase : m0 ≠ b0 ∨ (b0 = m0 ∧ m1 ≠ b1) ∨ (b0 = m0 ∧ b1 = m1 ∧ m2 ≠ b2) ∨ (b0 = m0 ∧ b1 = m1 ∧ b2 = m2 ∧ m3 ≠ b3) ∨ (b0 = m0 ∧ b1 = m1 ∧ b2 = m2 ∧ b3 = m3) := by omega
      rcases hcase with n0 | ⟨rfl, n0⟩ | ⟨rfl, rfl, n0⟩ | ⟨rfl, rfl, rfl, n0⟩ | ⟨rfl, rfl, rfl, rfl⟩
      all_goals
       try have n1 := beq_eq_false_iff_ne.2 n0
       go_region_held3 (fun w' => (w'.cell? ⟨w.heap.size, 1, none⟩ = some (.int .i64 b0) ∧ w'.cell? ⟨w.heap.size, 2, none⟩ = some (.int .i64 b1) ∧ w'.cell? ⟨w.heap.size, 3, none⟩ = some (.int .i64 b2) ∧ w'.cell? ⟨w.heap.size, 4, none⟩ = some (.int .i64 b3)) ∧ w'.cell? ⟨wr.heap.size, 0, none⟩ = some (.int .i64 d0) ∧ w'.cell? ⟨wr.heap.size, 1, none⟩ = some (.int .i64 d1) ∧ w'.cell? ⟨wr.heap.size, 2, none⟩ = some (.int .i64 d2) ∧ w'.cell? ⟨wr.heap.size, 3, none⟩ = some (.int .i64 d3)) (first
         | exact ⟨⟨p1, p2, p3, p4⟩, q1, q2, q3, q4⟩
         | exact ⟨⟨p1x, p2x, p3x, p4x⟩, q1x, q2x, q3x, q4x⟩
         | (go_simp)) ((go_at_call 109; refine Calls.mono (HBOTH.out _) ?_; rintro e w3 ⟨rfl, hb3⟩; have HB3 := Aside0.mk hb3; have p1x := (hb3.cell (p := ⟨w.heap.size, 1, none⟩) HL1.out).trans p1; have p2x := (hb3.cell (p := ⟨w.heap.size, 2, none⟩) HL1.out).trans p2; have p3x := (hb3.cell (p := ⟨w.heap.size, 3, none⟩) HL1.out).trans p3; have p4x := (hb3.cell (p := ⟨w.heap.size, 4, none⟩) HL1.out).trans p4; have q1x := (hb3.cell (p := ⟨wr.heap.size, 0, none⟩) HL2.out).trans q1; have q2x := (hb3.cell (p := ⟨wr.heap.size, 1, none⟩) HL2.out).trans q2; have q3x := (hb3.cell (p := ⟨wr.heap.size, 2, none⟩) HL2.out).trans q3; have q4x := (hb3.cell (p := ⟨wr.heap.size, 3, none⟩) HL2.out).trans q4; clear hb3; unfold boxV; dsimp only))
      all_goals
        have hb3w : Below wr.heap.size wr w3 := by
          have h1 : Below wr.heap.size wr W2 := by rw [HW2.out]; exact (Below.refl _ _).alloc (Nat.le_refl _) _
          have h2 : Below W2.heap.size W2 w3 := ⟨HB3.out.os, HB3.out.tape, HB3.out.output, HB3.out.size, HB3.out.block⟩
          exact h1.trans (h2.mono (by have := HS2.out; omega))
        have HBW := Aside0.mk hb3w
        clear hb3w
      iterate 4
        · have hno := listL_no (b := (b0, b1, b2, b3)) hkl (by rw [hD.out, HM.out]; intro e; simp only [Prod.mk.injEq] at e; omega)
          have HNO := Aside0.mk hno
          clear hno
          go_wp2_with fail
          refine ⟨⟨k + 1, n, c, A, by push_cast; rfl, by omega, rfl, ⟨by rw [HNO.out]; exact HD.out.1, by rw [HNO.out]; exact pw_own_below HD.out.2.1 HBW.out, HD.out.2.2.trans (HBW.out.mono (by have := HPW.out; omega))⟩⟩, by simp [intOf]; omega⟩
      · have hyes := listL_yes (b := (b0, b1, b2, b3)) hkl (by rw [hD.out, HM.out])
        have HYES := Aside0.mk hyes
        clear hyes
        go_wp2_with (at_builtin; refine print_append_num (w0 := W1) (w.heap.size + 1) rfl (.tmp 24) (.tmp 26) 34 3 .i64 8 rfl Try.underlying34 (by kernel_rfl) (by omega) _ (listL boxes (b0, b1, b2, b3) k) (k : Int) rfl rfl ?k1 (HD.out.2.2.trans (HBW.out.mono (by have := HPW.out; omega))) ?k3 ?k2 ?_; (case k1 => rw [← HD.out.1]; exact pw_own_below HD.out.2.1 HBW.out); (case k3 => have := HPW.out; have := HBW.out.size; omega); (case k2 => have := listL_len boxes (b0, b1, b2, b3) k; omega); intro v1 w1 ho hB hg hat; have HO1 := Aside0.mk ho; have HB4 := Aside0.mk hB; clear ho hB hg hat)
        obtain ⟨A1, c1, rfl⟩ := own_slice HO1.out
        refine ⟨⟨k + 1, (listL boxes (b0, b1, b2, b3) k ++ [(k : Int)]).length, c1, A1, by push_cast; rfl, by omega, rfl, ⟨by rw [HYES.out], by rw [HYES.out]; exact HO1.out, HB4.out⟩⟩, by simp [intOf]; omega⟩
    · have hkl : k = boxes.length := by omega
      subst hkl
      go_wp2_with fail
      obtain ⟨ho1, ho2, ho3⟩ := HD.out
      subst ho1
      go_ret
      exact ⟨⟨A, c, rfl, own_weaken ho2 (by omega)⟩, HB1.out.trans (ho3.mono (by omega))⟩
end Go.Proofs.Ytiehiockjlhbcaa
