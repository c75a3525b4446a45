/- The program's stuckBy: the walk. -/
import Derived.Test.YtdhnjecbdclmaaaKSCutStuckM
namespace Go.Proofs.Ytdhnjecbdclmaaa
open Go.RowKit Go.Shelf Go.Proofs.YtdhnjecbdclmaaaW.PrintWords Go.Proofs.YtdhnjecbdclmaaaW.PrintMore
set_option linter.unusedVariables false
set_option linter.unusedSimpArgs false
set_option maxRecDepth 100000 in
set_option maxHeartbeats 8000000 in
theorem stuckBy_any (fb h wd : Nat) (cl : Nat → Nat → Int) (boxes : List Box) (w : World) (hf : FloorR w fb h wd cl boxes) (hh : h ≤ 6) (hwd : wd ≤ 6) (hn : boxes.length ≤ 9) (hbx : ∀ B ∈ boxes, BoxFl h wd B) (b : ByteArray) (hb : b.size ≤ 2000000) :
    Calls Try.prog 93 #[.pointer (some ⟨fb, 0, none⟩), .string b] w fun e w' => e = .returned (.bool (stuckByP cl boxes b)) ∧ Below w.heap.size w w' := by
  have HF := Aside0.mk hf
  have HHAS := Aside0.mk (fun W (hW : Below w.heap.size w W) k => has_any fb h wd cl boxes W (hf.below hW) (by omega) k)
  have HBX := Aside0.mk hbx
  clear hf hbx
  by_cases hs : b.size < 2
  · have HV : Aside0 (stuckByP cl boxes b = false) := ⟨by unfold stuckByP; rw [if_pos hs]⟩
    go_enter Try.func93, Try.ntmps93
    go_wp2_with fail
    go_ret
    exact ⟨by rw [HV.out]; rfl, Below.refl _ _⟩
  · have HV : Aside0 (stuckByP cl boxes b = stuckR boxes (cutB cl) b b.size 0 (0, 0, 0, 0) 0) := ⟨by unfold stuckByP; rw [if_neg hs]⟩
    have kb := fun (s : ByteArray) W => print_bytes (P := Try.prog) 9 29 5 Try.underlying9 Try.underlying29 Try.underlying5 s W
    obtain ⟨W1, hW1⟩ : ∃ W1 : World, W1 = w.alloc (.cells #[.pointer (some ⟨fb, 0, none⟩), .int .i64 0, .int .i64 0, .int .i64 0, .int .i64 0] 58) := ⟨_, rfl⟩
    have hs1 : W1.heap.size = w.heap.size + 1 := by rw [hW1]; simp
    obtain ⟨W2, hW2⟩ : ∃ W2 : World, W2 = Lib.bytesWorld W1 5 b := ⟨_, rfl⟩
    have HB1 : Aside0 (Below w.heap.size w W1) := ⟨by rw [hW1]; exact (Below.refl _ _).alloc (Nat.le_refl _) _⟩
    have HB2 : Aside0 (Below w.heap.size w W2) := ⟨by rw [hW2]; exact bytes_below HB1.out HB1.out.size 5 b⟩
    have HS2 : Aside0 (W2.heap.size = w.heap.size + 2) := ⟨by rw [hW2, Lib.bytesWorld_size]; omega⟩
    have HP2 : Aside0 (W2.heap[w.heap.size]? = some (.cells #[.pointer (some ⟨fb, 0, none⟩), .int .i64 0, .int .i64 0, .int .i64 0, .int .i64 0] 58 (0, 0))) := ⟨by rw [hW2, Lib.bytesWorld_at_old _ _ _ _ (by omega), hW1]; exact heap_alloc_new w _⟩
    have HBT : Aside0 (ReadsInt W2 .u8 (some ⟨W1.heap.size, 0, none⟩) b.size (bytesOf b)) := ⟨by rw [hW2]; exact bytes_reads W1 5 b (by omega)⟩
    have HW1 := Aside0.mk hW1
    have HW2 := Aside0.mk hW2
    clear hW1 hW2
    go_enter Try.func93, Try.ntmps93
    go_wp2_with fail
    rw [← HW1.out, ← HW2.out]
    clear kb
    go_loopw [6, 20] (fun s i wr => ∃ (k : Nat) (C : Int) (R : Box), i = .int .i64 k ∧ k ≤ b.size ∧ s = .int .i64 C ∧ Aside0 ((0 ≤ C ∧ C ≤ 36 * (k : Int)) ∧ wr.heap[w.heap.size]? = some (.cells (partCells fb R) 58 (0, 0)) ∧ Below w.heap.size w wr ∧ W2.heap.size ≤ wr.heap.size ∧ ReadsInt wr .u8 (some ⟨W1.heap.size, 0, none⟩) b.size (bytesOf b) ∧ (0 < k → BoxFl h wd R) ∧ stuckR boxes (cutB cl) b b.size 0 (0, 0, 0, 0) 0 = stuckR boxes (cutB cl) b (b.size - k) k R C)) (fun _ i _ => b.size - (intOf i).toNat)
    case atStart =>
      exact ⟨0, 0, (0, 0, 0, 0), rfl, Nat.zero_le _, rfl, ⟨⟨Int.le_refl _, by omega⟩, HP2.out, HB2.out, Nat.le_refl _, HBT.out, fun h => absurd h (Nat.lt_irrefl 0), rfl⟩⟩
    case round =>
      obtain ⟨k, C, ⟨r0, r1, r2, r3⟩, rfl, hk, rfl, HD⟩ := hrel
      by_cases hlt : k < b.size
      · have hstep := stuckR_step boxes (cutB cl) b hlt (r0, r1, r2, r3) C
        obtain ⟨ad, had, hc0⟩ := HD.out.2.2.2.2.1.2.2 (by omega)
        have f0 := hc0 k hlt
        have hx : (bytesOf b).getD k 0 = bt b (k : Int) := by have := rd_bytesOf b (k : Int); unfold rd at this; rwa [Int.toNat_natCast] at this
        rw [hx] at f0
        have hxr : 0 ≤ bt b (k : Int) ∧ bt b (k : Int) ≤ 255 := by
          rw [bt_lt hlt]
          have := (b[k]).toNat_lt
          omega
        obtain ⟨x, hxx⟩ : ∃ x, bt b (k : Int) = x := ⟨_, rfl⟩
        rw [hxx] at f0 hxr hstep
        have hx0 := hxr.1
        have hx9 := hxr.2
        injection had with had
        subst had
        have HXX := Aside0.mk hxx
        have HST := Aside0.mk hstep
        have HH := Aside0.mk (HHAS.out wr HD.out.2.2.1 (x - 97))
        clear hc0 hx hxr hstep hxx
        rw [add_plain, hs1] at f0
        by_cases hin : 0 ≤ x - 97 ∧ x - 97 < (boxes.length : Int)
        · rw [decide_eq_true hin] at HH
          have hi0 := hin.1
          have hi9 := hin.2
          have hkl : (x - 97).toNat < boxes.length := by omega
          obtain ⟨g, rb, RA, rc, q1, q2, q3, q4, q5, q6⟩ := HF.out
          obtain ⟨rg, hRA, hrg, hrc⟩ := q6 (fun e => by rw [e] at hkl; simp at hkl)
          obtain ⟨c1, c2, c3, c4⟩ := hrc _ hkl
          obtain ⟨⟨d0, d1, d2, d3⟩, hd⟩ : ∃ d, boxes[(x - 97).toNat] = d := ⟨_, rfl⟩
          rw [hd] at c1 c2 c3 c4
          dsimp only at c1 c2 c3 c4
          subst hRA
          have HD4 : Aside0 (boxAt boxes (x - 97) = (d0, d1, d2, d3)) := ⟨by unfold boxAt; rw [List.getD_eq_getElem?_getD, List.getElem?_eq_getElem hkl, hd]; rfl⟩
          have HFL : Aside0 (BoxFl h wd (d0, d1, d2, d3)) := ⟨by rw [← hd]; exact HBX.out _ (List.getElem_mem hkl)⟩
          have HCF : Aside0 (∀ W, Below w.heap.size w W → W.cell? ⟨fb, 1, none⟩ = some (.slice (some ⟨rg, 0, none⟩) boxes.length rc) ∧ W.cell? ⟨rg, (x - 97).toNat * 4, none⟩ = some (.int .i64 d0) ∧ W.cell? ⟨rg, (x - 97).toNat * 4 + 1, none⟩ = some (.int .i64 d1) ∧ W.cell? ⟨rg, (x - 97).toNat * 4 + 2, none⟩ = some (.int .i64 d2) ∧ W.cell? ⟨rg, (x - 97).toNat * 4 + 3, none⟩ = some (.int .i64 d3)) := ⟨fun W hW => ⟨(hW.cell (p := ⟨fb, 1, none⟩) q1).trans q4, (hW.cell (p := ⟨rg, _, none⟩) hrg).trans c1, (hW.cell (p := ⟨rg, _, none⟩) hrg).trans c2, (hW.cell (p := ⟨rg, _, none⟩) hrg).trans c3, (hW.cell (p := ⟨rg, _, none⟩) hrg).trans c4⟩⟩
          have HLT : Aside0 (fb < w.heap.size ∧ rg < w.heap.size) := ⟨⟨q1, hrg⟩⟩
          clear q1 q2 q3 q4 q5 q6 hrg hrc c1 c2 c3 c4 hd hin
          by_cases hk0 : k = 0
          · subst hk0
            go_wp2_with (first | (go_at_call 173; refine HH.out.mono ?_; rintro e w3 ⟨rfl, hb3⟩; have HB3 := Aside0.mk (HD.out.2.2.1.trans (hb3.mono HD.out.2.2.1.size)); obtain ⟨e0, e1, e2, e3, e4⟩ := HCF.out _ HB3.out; have HP3 : w3.heap[w.heap.size]? = some (.cells #[.pointer (some ⟨fb, 0, none⟩), .int .i64 r0, .int .i64 r1, .int .i64 r2, .int .i64 r3] 58 (0, 0)) := (hb3.block w.heap.size (Array.getElem?_eq_some_iff.1 HD.out.2.1).1).trans HD.out.2.1; have z0 : w3.cell? ⟨w.heap.size, 0, none⟩ = some (.pointer (some ⟨fb, 0, none⟩)) := Lib.cell_of_heap HP3 0; have z1 : w3.cell? ⟨w.heap.size, 1, none⟩ = some (.int .i64 r0) := Lib.cell_of_heap HP3 1; have z2 : w3.cell? ⟨w.heap.size, 2, none⟩ = some (.int .i64 r1) := Lib.cell_of_heap HP3 2; have z3 : w3.cell? ⟨w.heap.size, 3, none⟩ = some (.int .i64 r2) := Lib.cell_of_heap HP3 3; have z4 : w3.cell? ⟨w.heap.size, 4, none⟩ = some (.int .i64 r3) := Lib.cell_of_heap HP3 4; have y1 : w3.frozen? ⟨w.heap.size, 1, none⟩ = false := Lib.frozen_of_heap HP3 1; have y2 : w3.frozen? ⟨w.heap.size, 2, none⟩ = false := Lib.frozen_of_heap HP3 2; have y3 : w3.frozen? ⟨w.heap.size, 3, none⟩ = false := Lib.frozen_of_heap HP3 3; have y4 : w3.frozen? ⟨w.heap.size, 4, none⟩ = false := Lib.frozen_of_heap HP3 4; have HRI := Aside0.mk (HD.out.2.2.2.2.1.below hb3); have HSZ3 := Aside0.mk (Nat.le_trans HD.out.2.2.2.1 hb3.size); clear hb3))
            have HCOND : Aside0 ((decide (0 ≤ x - 97 ∧ x - 97 < (boxes.length : Int)) && !(decide (0 < 0) && decide (x ≤ bt b (((0 : Nat) : Int) - 1)))) = true) := ⟨by rw [decide_eq_true ⟨hi0, hi9⟩]; rfl⟩
            have HBC : Aside0 (bothB (if (0 : Nat) = 0 then (d0, d1, d2, d3) else (r0, r1, r2, r3)) (d0, d1, d2, d3) = bothB (d0, d1, d2, d3) (d0, d1, d2, d3)) := ⟨rfl⟩
            obtain ⟨W4, hW4⟩ : ∃ W4 : World, W4 = (((w3.setCell ⟨w.heap.size, 1, none⟩ (.int .i64 d0)).setCell ⟨w.heap.size, 2, none⟩ (.int .i64 d1)).setCell ⟨w.heap.size, 3, none⟩ (.int .i64 d2)).setCell ⟨w.heap.size, 4, none⟩ (.int .i64 d3) := ⟨_, rfl⟩
            rw [← hW4]
            obtain ⟨hp4, ho4, hs4, hb4⟩ := set4 HP3 _ _ _ _ W4 hW4
            have HP4 := Aside0.mk hp4
            have HB4 := Aside0.mk (hb4 _ _ (Nat.le_refl _) HB3.out)
            have HS4 : Aside0 (W2.heap.size ≤ W4.heap.size) := ⟨by rw [hs4]; exact HSZ3.out⟩
            have HRI4 := Aside0.mk (RI_move HRI.out (ho4 _ (by omega)))
            have HFB4 := Aside0.mk HFL.out
            clear hp4 ho4 hs4 hb4 hW4 HP3 z0 z1 z2 z3 z4 y1 y2 y3 y4 e0 e1 e2 e3 e4
            have HI4 := Aside0.mk (HFB4.out.in_ hh hwd)
            have HID := Aside0.mk (HFL.out.in_ hh hwd)
            obtain ⟨⟨m0, m1, m2, m3⟩, hm⟩ : ∃ m, bothB (d0, d1, d2, d3) (d0, d1, d2, d3) = m := ⟨_, rfl⟩
            have HM := Aside0.mk hm
            have HBOTH : Aside0 (∀ W, Calls Try.prog 168 #[boxV (d0, d1, d2, d3), boxV (d0, d1, d2, d3)] W fun e w' => e = .returned (boxV (m0, m1, m2, m3)) ∧ Below W.heap.size W w') := ⟨fun W => by have := both_any (d0, d1, d2, d3) (d0, d1, d2, d3) HI4.out.1 HID.out.1 W; rwa [hm] at this⟩
            have HFM : Aside0 (BoxFl h wd (m0, m1, m2, m3)) := ⟨by rw [← hm]; exact bothFl HFB4.out HFL.out⟩
            have HL4 : Aside0 (w.heap.size < W4.heap.size) := ⟨(Array.getElem?_eq_some_iff.1 HP4.out).1⟩
            have a1 : W4.cell? ⟨w.heap.size, 1, none⟩ = some (.int .i64 d0) := Lib.cell_of_heap HP4.out 1
            have a2 : W4.cell? ⟨w.heap.size, 2, none⟩ = some (.int .i64 d1) := Lib.cell_of_heap HP4.out 2
            have a3 : W4.cell? ⟨w.heap.size, 3, none⟩ = some (.int .i64 d2) := Lib.cell_of_heap HP4.out 3
            have a4 : W4.cell? ⟨w.heap.size, 4, none⟩ = some (.int .i64 d3) := Lib.cell_of_heap HP4.out 4
            obtain ⟨g0, g1, g2, g3, g4⟩ := HCF.out _ HB4.out
            clear hm
            have h97 : 97 ≤ x := by omega
            have hl1 := HLT.out.1
            have hl2 := HLT.out.2
            unfold boxV at HBOTH
            dsimp only at HBOTH
            first | refine wp_region_noPanic ?_ | skip
            refine wp_region_held_drew (S := (fun w' => w'.cell? ⟨fb, 1, none⟩ = some (.slice (some ⟨rg, 0, none⟩) boxes.length rc) ∧ w'.cell? ⟨rg, (x - 97).toNat * 4, none⟩ = some (.int .i64 d0) ∧ w'.cell? ⟨rg, (x - 97).toNat * 4 + 1, none⟩ = some (.int .i64 d1) ∧ w'.cell? ⟨rg, (x - 97).toNat * 4 + 2, none⟩ = some (.int .i64 d2) ∧ w'.cell? ⟨rg, (x - 97).toNat * 4 + 3, none⟩ = some (.int .i64 d3))) (by kernel_rfl) ?_ (fun hHeld => ?_)
            · ((try dsimp only); (first | exact ⟨g0, g1, g2, g3, g4⟩ | exact ⟨g0x, g1x, g2x, g3x, g4x⟩ | (go_simp)))
            refine wpAnyH_take (i := 0) (oi := _) (v := ?_) rfl (by kernel_rfl) (by kernel_rfl) (by kernel_rfl) (fun _ _ _ h => h) (Or.inl ⟨by rfl, ?_⟩) (by assumption) ?_
            rotate_left
            · (intro w hSw; (try dsimp only at hSw); go_simp; try with_reducible rfl)
            try simp only [Act.put, List.setIfInBounds_toArray, List.set_cons_zero, List.set_cons_succ]
            refine wpAnyH_take (i := 2) (oi := _) (v := ?_) rfl (by kernel_rfl) (by kernel_rfl) (by kernel_rfl) (fun _ _ _ h => h) (Or.inl ⟨by rfl, ?_⟩) (by assumption) ?_
            rotate_left
            · (intro w hSw; (try dsimp only at hSw); go_simp; try with_reducible rfl)
            try simp only [Act.put, List.setIfInBounds_toArray, List.set_cons_zero, List.set_cons_succ]
            refine wpAnyH_take (i := 3) (oi := _) (v := ?_) rfl (by kernel_rfl) (by kernel_rfl) (by kernel_rfl) (fun _ _ _ h => h) (Or.inl ⟨by rfl, ?_⟩) (by assumption) ?_
            rotate_left
            · (intro w hSw; (try dsimp only at hSw); go_simp; try with_reducible rfl)
            try simp only [Act.put, List.setIfInBounds_toArray, List.set_cons_zero, List.set_cons_succ]
            refine wpAnyH_take (i := 4) (oi := _) (v := ?_) rfl (by kernel_rfl) (by kernel_rfl) (by kernel_rfl) (fun _ _ _ h => h) (Or.inl ⟨by rfl, ?_⟩) (by assumption) ?_
            rotate_left
            · (intro w hSw; (try dsimp only at hSw); go_simp; try with_reducible rfl)
            try simp only [Act.put, List.setIfInBounds_toArray, List.set_cons_zero, List.set_cons_succ]
            refine wpAnyH_take (i := 5) (oi := _) (v := ?_) rfl (by kernel_rfl) (by kernel_rfl) (by kernel_rfl) (fun _ _ _ h => h) (Or.inl ⟨by rfl, ?_⟩) (by assumption) ?_
            rotate_left
            · (intro w hSw; (try dsimp only at hSw); go_simp; try with_reducible rfl)
            try simp only [Act.put, List.setIfInBounds_toArray, List.set_cons_zero, List.set_cons_succ]
            refine wpAnyH_take (i := 6) (oi := _) (v := ?_) rfl (by kernel_rfl) (by kernel_rfl) (by kernel_rfl) (fun _ _ _ h => h) (Or.inl ⟨by rfl, ?_⟩) (by assumption) ?_
            rotate_left
            · (intro w hSw; (try dsimp only at hSw); go_simp; try with_reducible rfl)
            try simp only [Act.put, List.setIfInBounds_toArray, List.set_cons_zero, List.set_cons_succ]
            refine wpAnyH_take (i := 7) (oi := _) (v := ?_) rfl (by kernel_rfl) (by kernel_rfl) (by kernel_rfl) (fun _ _ _ h => h) (Or.inl ⟨by rfl, ?_⟩) (by assumption) ?_
            rotate_left
            · (intro w hSw; (try dsimp only at hSw); go_simp; try with_reducible rfl)
            try simp only [Act.put, List.setIfInBounds_toArray, List.set_cons_zero, List.set_cons_succ]
            refine wpAnyH_take (i := 8) (oi := _) (v := ?_) rfl (by kernel_rfl) (by kernel_rfl) (by kernel_rfl) (fun _ _ _ h => h) (Or.inl ⟨by rfl, ?_⟩) (by assumption) ?_
            rotate_left
            · (intro w hSw; (try dsimp only at hSw); go_simp; try with_reducible rfl)
            try simp only [Act.put, List.setIfInBounds_toArray, List.set_cons_zero, List.set_cons_succ]
            refine wpAnyH_ready (rs := [1]) (by kernel_rfl) (by simp) ?_
            refine AllReadyH.cons (o := _) rfl (fun K hK => ?_) AllReadyH.nil
            go_simp
            refine hK.out _ _ ?_ (fun hHeld => ?_)
            · ((try dsimp only); (first | exact ⟨g0, g1, g2, g3, g4⟩ | exact ⟨g0x, g1x, g2x, g3x, g4x⟩ | (go_simp)))
            clear hK K
            try simp only [Act.put, List.setIfInBounds_toArray, List.set_cons_zero, List.set_cons_succ]
            refine wpAnyH_ready (rs := [9]) (by kernel_rfl) (by simp) ?_
            refine AllReadyH.cons (o := _) rfl (fun K hK => ?_) AllReadyH.nil
            (go_simp; go_at_call 168; refine Calls.mono (HBOTH.out _) ?_; rintro e w5 ⟨rfl, hb5⟩; have HB5 := Aside0.mk hb5; have HP5 := Aside0.mk ((hb5.block w.heap.size HL4.out).trans HP4.out); have HS5 := Aside0.mk hb5.size; have g0x := (hb5.cell (p := ⟨fb, 1, none⟩) (Nat.lt_trans HLT.out.1 HL4.out)).trans g0; have g1x := (hb5.cell (p := ⟨rg, (x - 97).toNat * 4, none⟩) (Nat.lt_trans HLT.out.2 HL4.out)).trans g1; have g2x := (hb5.cell (p := ⟨rg, (x - 97).toNat * 4 + 1, none⟩) (Nat.lt_trans HLT.out.2 HL4.out)).trans g2; have g3x := (hb5.cell (p := ⟨rg, (x - 97).toNat * 4 + 2, none⟩) (Nat.lt_trans HLT.out.2 HL4.out)).trans g3; have g4x := (hb5.cell (p := ⟨rg, (x - 97).toNat * 4 + 3, none⟩) (Nat.lt_trans HLT.out.2 HL4.out)).trans g4; have y1 : w5.frozen? ⟨w.heap.size, 1, none⟩ = false := Lib.frozen_of_heap HP5.out 1; have y2 : w5.frozen? ⟨w.heap.size, 2, none⟩ = false := Lib.frozen_of_heap HP5.out 2; have y3 : w5.frozen? ⟨w.heap.size, 3, none⟩ = false := Lib.frozen_of_heap HP5.out 3; have y4 : w5.frozen? ⟨w.heap.size, 4, none⟩ = false := Lib.frozen_of_heap HP5.out 4; have a1x : w5.cell? ⟨w.heap.size, 1, none⟩ = _ := Lib.cell_of_heap HP5.out 1; have a2x : w5.cell? ⟨w.heap.size, 2, none⟩ = _ := Lib.cell_of_heap HP5.out 2; have a3x : w5.cell? ⟨w.heap.size, 3, none⟩ = _ := Lib.cell_of_heap HP5.out 3; have a4x : w5.cell? ⟨w.heap.size, 4, none⟩ = _ := Lib.cell_of_heap HP5.out 4; clear hb5; (try dsimp only))
            refine hK.out _ _ ?_ (fun hHeld => ?_)
            · ((try dsimp only); (first | exact ⟨g0, g1, g2, g3, g4⟩ | exact ⟨g0x, g1x, g2x, g3x, g4x⟩ | (go_simp)))
            clear hK K
            try simp only [Act.put, List.setIfInBounds_toArray, List.set_cons_zero, List.set_cons_succ]
            refine wpAnyH_take (i := 10) (oi := _) (v := ?_) rfl (by kernel_rfl) (by kernel_rfl) (by kernel_rfl) (fun _ _ _ h => h) (Or.inl ⟨by rfl, ?_⟩) (by assumption) ?_
            rotate_left
            · (intro w hSw; (try dsimp only at hSw); go_simp; try with_reducible rfl)
            try simp only [Act.put, List.setIfInBounds_toArray, List.set_cons_zero, List.set_cons_succ]
            refine wpAnyH_ready (rs := [11]) (by kernel_rfl) (by simp) ?_
            refine AllReadyH.cons (o := _) rfl (fun K hK => ?_) AllReadyH.nil
            go_simp
            refine hK.out _ _ ?_ (fun hHeld => ?_)
            · ((try dsimp only); (first | exact ⟨g0, g1, g2, g3, g4⟩ | exact ⟨g0x, g1x, g2x, g3x, g4x⟩ | (go_simp)))
            clear hK K
            try simp only [Act.put, List.setIfInBounds_toArray, List.set_cons_zero, List.set_cons_succ]
            refine wpAnyH_done (by kernel_rfl) ?_ _
            first | refine NoPanic.normal ?_ | skip
            obtain ⟨W6, hW6⟩ : ∃ W6 : World, W6 = (((w5.setCell ⟨w.heap.size, 1, none⟩ (.int .i64 m0)).setCell ⟨w.heap.size, 2, none⟩ (.int .i64 m1)).setCell ⟨w.heap.size, 3, none⟩ (.int .i64 m2)).setCell ⟨w.heap.size, 4, none⟩ (.int .i64 m3) := ⟨_, rfl⟩
            rw [← hW6]
            obtain ⟨hp6, ho6, hs6, hb6⟩ := set4 HP5.out _ _ _ _ W6 hW6
            have HP6 := Aside0.mk hp6
            have HB6 := Aside0.mk (hb6 _ _ (Nat.le_refl _) (HB4.out.drew.trans (HB5.out.mono HB4.out.size)))
            have HS6 : Aside0 (W2.heap.size ≤ W6.heap.size) := ⟨by rw [hs6]; exact Nat.le_trans HS4.out HS5.out⟩
            have HRI6 := Aside0.mk (RI_move ((RI_move HRI4.out (W := W4.drew) rfl).below HB5.out) (ho6 _ (by omega)))
            obtain ⟨f0, f1, f2, f3, f4⟩ := HCF.out _ HB6.out
            clear hp6 ho6 hs6 hb6 hW6 g0 g1 g2 g3 g4 g0x g1x g2x g3x g4x a1 a2 a3 a4 a1x a2x a3x a4x y1 y2 y3 y4
            go_wp2_with (go_at_call 174; refine (area_any (d0, d1, d2, d3) HID.out.1 _).mono ?_; rintro e w7 ⟨rfl, hb7⟩; have HB7 := Aside0.mk hb7; clear hb7)
            have hca := HID.out.2
            have hcc := HD.out.1
            have hwr : wrap64 (C + areaB (d0, d1, d2, d3)) = C + areaB (d0, d1, d2, d3) := by unfold wrap64; omega
            have hval := HD.out.2.2.2.2.2.2.trans HST.out
            rw [if_pos HCOND.out, HD4.out, HBC.out, HM.out] at hval
            refine ⟨⟨0 + 1, C + areaB (d0, d1, d2, d3), (m0, m1, m2, m3), by push_cast; rfl, by omega, by rw [hwr], ⟨by omega, (HB7.out.block _ (Array.getElem?_eq_some_iff.1 HP6.out).1).trans HP6.out, HB6.out.trans (HB7.out.mono HB6.out.size), Nat.le_trans HS6.out HB7.out.size, HRI6.out.below HB7.out, fun _ => HFM.out, hval⟩⟩, by simp [intOf]; omega⟩
          · have hbk : bt b ((k : Int) - 1) = ((b[k - 1]'(by omega)).toNat : Int) := by rw [show (k : Int) - 1 = ((k - 1 : Nat) : Int) by omega]; exact bt_lt (by omega)
            by_cases hle : x ≤ bt b ((k : Int) - 1)
            · have HFA : Aside0 (stuckByP cl boxes b = false) := ⟨by
                rw [HV.out, HD.out.2.2.2.2.2.2, HST.out]
                rw [decide_eq_true hle, decide_eq_true (show 0 < k by omega), Bool.and_true, Bool.not_true, Bool.and_false]
                rfl⟩
              rw [hbk] at hle
              clear hbk
              go_wp2_with (first | (go_at_call 173; refine HH.out.mono ?_; rintro e w3 ⟨rfl, hb3⟩; have HB3 := Aside0.mk (HD.out.2.2.1.trans (hb3.mono HD.out.2.2.1.size)); obtain ⟨e0, e1, e2, e3, e4⟩ := HCF.out _ HB3.out; have HP3 : w3.heap[w.heap.size]? = some (.cells #[.pointer (some ⟨fb, 0, none⟩), .int .i64 r0, .int .i64 r1, .int .i64 r2, .int .i64 r3] 58 (0, 0)) := (hb3.block w.heap.size (Array.getElem?_eq_some_iff.1 HD.out.2.1).1).trans HD.out.2.1; have z0 : w3.cell? ⟨w.heap.size, 0, none⟩ = some (.pointer (some ⟨fb, 0, none⟩)) := Lib.cell_of_heap HP3 0; have z1 : w3.cell? ⟨w.heap.size, 1, none⟩ = some (.int .i64 r0) := Lib.cell_of_heap HP3 1; have z2 : w3.cell? ⟨w.heap.size, 2, none⟩ = some (.int .i64 r1) := Lib.cell_of_heap HP3 2; have z3 : w3.cell? ⟨w.heap.size, 3, none⟩ = some (.int .i64 r2) := Lib.cell_of_heap HP3 3; have z4 : w3.cell? ⟨w.heap.size, 4, none⟩ = some (.int .i64 r3) := Lib.cell_of_heap HP3 4; have y1 : w3.frozen? ⟨w.heap.size, 1, none⟩ = false := Lib.frozen_of_heap HP3 1; have y2 : w3.frozen? ⟨w.heap.size, 2, none⟩ = false := Lib.frozen_of_heap HP3 2; have y3 : w3.frozen? ⟨w.heap.size, 3, none⟩ = false := Lib.frozen_of_heap HP3 3; have y4 : w3.frozen? ⟨w.heap.size, 4, none⟩ = false := Lib.frozen_of_heap HP3 4; have HRI := Aside0.mk (HD.out.2.2.2.2.1.below hb3); have HSZ3 := Aside0.mk (Nat.le_trans HD.out.2.2.2.1 hb3.size); clear hb3))
              go_ret
              exact ⟨by rw [HFA.out]; rfl, HB3.out⟩
            · have HCOND : Aside0 ((decide (0 ≤ x - 97 ∧ x - 97 < (boxes.length : Int)) && !(decide (0 < k) && decide (x ≤ bt b ((k : Int) - 1)))) = true) := ⟨by rw [decide_eq_true ⟨hi0, hi9⟩, decide_eq_false hle, Bool.and_false]; rfl⟩
              have HBC : Aside0 (bothB (if k = 0 then (d0, d1, d2, d3) else (r0, r1, r2, r3)) (d0, d1, d2, d3) = bothB (r0, r1, r2, r3) (d0, d1, d2, d3)) := ⟨by rw [if_neg hk0]⟩
              rw [hbk] at hle
              clear hbk
              go_wp2_with (first | (go_at_call 173; refine HH.out.mono ?_; rintro e W4 ⟨rfl, hb3⟩; have HB3 := Aside0.mk (HD.out.2.2.1.trans (hb3.mono HD.out.2.2.1.size)); obtain ⟨e0, e1, e2, e3, e4⟩ := HCF.out _ HB3.out; have HP3 : W4.heap[w.heap.size]? = some (.cells #[.pointer (some ⟨fb, 0, none⟩), .int .i64 r0, .int .i64 r1, .int .i64 r2, .int .i64 r3] 58 (0, 0)) := (hb3.block w.heap.size (Array.getElem?_eq_some_iff.1 HD.out.2.1).1).trans HD.out.2.1; have z0 : W4.cell? ⟨w.heap.size, 0, none⟩ = some (.pointer (some ⟨fb, 0, none⟩)) := Lib.cell_of_heap HP3 0; have z1 : W4.cell? ⟨w.heap.size, 1, none⟩ = some (.int .i64 r0) := Lib.cell_of_heap HP3 1; have z2 : W4.cell? ⟨w.heap.size, 2, none⟩ = some (.int .i64 r1) := Lib.cell_of_heap HP3 2; have z3 : W4.cell? ⟨w.heap.size, 3, none⟩ = some (.int .i64 r2) := Lib.cell_of_heap HP3 3; have z4 : W4.cell? ⟨w.heap.size, 4, none⟩ = some (.int .i64 r3) := Lib.cell_of_heap HP3 4; have y1 : W4.frozen? ⟨w.heap.size, 1, none⟩ = false := Lib.frozen_of_heap HP3 1; have y2 : W4.frozen? ⟨w.heap.size, 2, none⟩ = false := Lib.frozen_of_heap HP3 2; have y3 : W4.frozen? ⟨w.heap.size, 3, none⟩ = false := Lib.frozen_of_heap HP3 3; have y4 : W4.frozen? ⟨w.heap.size, 4, none⟩ = false := Lib.frozen_of_heap HP3 4; have HRI := Aside0.mk (HD.out.2.2.2.2.1.below hb3); have HSZ3 := Aside0.mk (Nat.le_trans HD.out.2.2.2.1 hb3.size); clear hb3))
              have HP4 := Aside0.mk HP3
              have HB4 := HB3
              have HS4 := HSZ3
              have HRI4 := HRI
              have HFB4 := Aside0.mk (HD.out.2.2.2.2.2.1 (by omega))
              clear HP3 z0 z1 z2 z3 z4 y1 y2 y3 y4 e0 e1 e2 e3 e4
              have HI4 := Aside0.mk (HFB4.out.in_ hh hwd)
              have HID := Aside0.mk (HFL.out.in_ hh hwd)
              obtain ⟨⟨m0, m1, m2, m3⟩, hm⟩ : ∃ m, bothB (r0, r1, r2, r3) (d0, d1, d2, d3) = m := ⟨_, rfl⟩
              have HM := Aside0.mk hm
              have HBOTH : Aside0 (∀ W, Calls Try.prog 168 #[boxV (r0, r1, r2, r3), boxV (d0, d1, d2, d3)] W fun e w' => e = .returned (boxV (m0, m1, m2, m3)) ∧ Below W.heap.size W w') := ⟨fun W => by have := both_any (r0, r1, r2, r3) (d0, d1, d2, d3) HI4.out.1 HID.out.1 W; rwa [hm] at this⟩
              have HFM : Aside0 (BoxFl h wd (m0, m1, m2, m3)) := ⟨by rw [← hm]; exact bothFl HFB4.out HFL.out⟩
              have HL4 : Aside0 (w.heap.size < W4.heap.size) := ⟨(Array.getElem?_eq_some_iff.1 HP4.out).1⟩
              have a1 : W4.cell? ⟨w.heap.size, 1, none⟩ = some (.int .i64 r0) := Lib.cell_of_heap HP4.out 1
              have a2 : W4.cell? ⟨w.heap.size, 2, none⟩ = some (.int .i64 r1) := Lib.cell_of_heap HP4.out 2
              have a3 : W4.cell? ⟨w.heap.size, 3, none⟩ = some (.int .i64 r2) := Lib.cell_of_heap HP4.out 3
              have a4 : W4.cell? ⟨w.heap.size, 4, none⟩ = some (.int .i64 r3) := Lib.cell_of_heap HP4.out 4
              obtain ⟨g0, g1, g2, g3, g4⟩ := HCF.out _ HB4.out
              clear hm
              have h97 : 97 ≤ x := by omega
              have hl1 := HLT.out.1
              have hl2 := HLT.out.2
              unfold boxV at HBOTH
              dsimp only at HBOTH
              first | refine wp_region_noPanic ?_ | skip
              refine wp_region_held_drew (S := (fun w' => w'.cell? ⟨fb, 1, none⟩ = some (.slice (some ⟨rg, 0, none⟩) boxes.length rc) ∧ w'.cell? ⟨rg, (x - 97).toNat * 4, none⟩ = some (.int .i64 d0) ∧ w'.cell? ⟨rg, (x - 97).toNat * 4 + 1, none⟩ = some (.int .i64 d1) ∧ w'.cell? ⟨rg, (x - 97).toNat * 4 + 2, none⟩ = some (.int .i64 d2) ∧ w'.cell? ⟨rg, (x - 97).toNat * 4 + 3, none⟩ = some (.int .i64 d3))) (by kernel_rfl) ?_ (fun hHeld => ?_)
              · ((try dsimp only); (first | exact ⟨g0, g1, g2, g3, g4⟩ | exact ⟨g0x, g1x, g2x, g3x, g4x⟩ | (go_simp)))
              refine wpAnyH_take (i := 0) (oi := _) (v := ?_) rfl (by kernel_rfl) (by kernel_rfl) (by kernel_rfl) (fun _ _ _ h => h) (Or.inl ⟨by rfl, ?_⟩) (by assumption) ?_
              rotate_left
              · (intro w hSw; (try dsimp only at hSw); go_simp; try with_reducible rfl)
              try simp only [Act.put, List.setIfInBounds_toArray, List.set_cons_zero, List.set_cons_succ]
              refine wpAnyH_take (i := 2) (oi := _) (v := ?_) rfl (by kernel_rfl) (by kernel_rfl) (by kernel_rfl) (fun _ _ _ h => h) (Or.inl ⟨by rfl, ?_⟩) (by assumption) ?_
              rotate_left
              · (intro w hSw; (try dsimp only at hSw); go_simp; try with_reducible rfl)
              try simp only [Act.put, List.setIfInBounds_toArray, List.set_cons_zero, List.set_cons_succ]
              refine wpAnyH_take (i := 3) (oi := _) (v := ?_) rfl (by kernel_rfl) (by kernel_rfl) (by kernel_rfl) (fun _ _ _ h => h) (Or.inl ⟨by rfl, ?_⟩) (by assumption) ?_
              rotate_left
              · (intro w hSw; (try dsimp only at hSw); go_simp; try with_reducible rfl)
              try simp only [Act.put, List.setIfInBounds_toArray, List.set_cons_zero, List.set_cons_succ]
              refine wpAnyH_take (i := 4) (oi := _) (v := ?_) rfl (by kernel_rfl) (by kernel_rfl) (by kernel_rfl) (fun _ _ _ h => h) (Or.inl ⟨by rfl, ?_⟩) (by assumption) ?_
              rotate_left
              · (intro w hSw; (try dsimp only at hSw); go_simp; try with_reducible rfl)
              try simp only [Act.put, List.setIfInBounds_toArray, List.set_cons_zero, List.set_cons_succ]
              refine wpAnyH_take (i := 5) (oi := _) (v := ?_) rfl (by kernel_rfl) (by kernel_rfl) (by kernel_rfl) (fun _ _ _ h => h) (Or.inl ⟨by rfl, ?_⟩) (by assumption) ?_
              rotate_left
              · (intro w hSw; (try dsimp only at hSw); go_simp; try with_reducible rfl)
              try simp only [Act.put, List.setIfInBounds_toArray, List.set_cons_zero, List.set_cons_succ]
              refine wpAnyH_take (i := 6) (oi := _) (v := ?_) rfl (by kernel_rfl) (by kernel_rfl) (by kernel_rfl) (fun _ _ _ h => h) (Or.inl ⟨by rfl, ?_⟩) (by assumption) ?_
              rotate_left
              · (intro w hSw; (try dsimp only at hSw); go_simp; try with_reducible rfl)
              try simp only [Act.put, List.setIfInBounds_toArray, List.set_cons_zero, List.set_cons_succ]
              refine wpAnyH_take (i := 7) (oi := _) (v := ?_) rfl (by kernel_rfl) (by kernel_rfl) (by kernel_rfl) (fun _ _ _ h => h) (Or.inl ⟨by rfl, ?_⟩) (by assumption) ?_
              rotate_left
              · (intro w hSw; (try dsimp only at hSw); go_simp; try with_reducible rfl)
              try simp only [Act.put, List.setIfInBounds_toArray, List.set_cons_zero, List.set_cons_succ]
              refine wpAnyH_take (i := 8) (oi := _) (v := ?_) rfl (by kernel_rfl) (by kernel_rfl) (by kernel_rfl) (fun _ _ _ h => h) (Or.inl ⟨by rfl, ?_⟩) (by assumption) ?_
              rotate_left
              · (intro w hSw; (try dsimp only at hSw); go_simp; try with_reducible rfl)
              try simp only [Act.put, List.setIfInBounds_toArray, List.set_cons_zero, List.set_cons_succ]
              refine wpAnyH_ready (rs := [1]) (by kernel_rfl) (by simp) ?_
              refine AllReadyH.cons (o := _) rfl (fun K hK => ?_) AllReadyH.nil
              go_simp
              refine hK.out _ _ ?_ (fun hHeld => ?_)
              · ((try dsimp only); (first | exact ⟨g0, g1, g2, g3, g4⟩ | exact ⟨g0x, g1x, g2x, g3x, g4x⟩ | (go_simp)))
              clear hK K
              try simp only [Act.put, List.setIfInBounds_toArray, List.set_cons_zero, List.set_cons_succ]
              refine wpAnyH_ready (rs := [9]) (by kernel_rfl) (by simp) ?_
              refine AllReadyH.cons (o := _) rfl (fun K hK => ?_) AllReadyH.nil
              (go_simp; go_at_call 168; refine Calls.mono (HBOTH.out _) ?_; rintro e w5 ⟨rfl, hb5⟩; have HB5 := Aside0.mk hb5; have HP5 := Aside0.mk ((hb5.block w.heap.size HL4.out).trans HP4.out); have HS5 := Aside0.mk hb5.size; have g0x := (hb5.cell (p := ⟨fb, 1, none⟩) (Nat.lt_trans HLT.out.1 HL4.out)).trans g0; have g1x := (hb5.cell (p := ⟨rg, (x - 97).toNat * 4, none⟩) (Nat.lt_trans HLT.out.2 HL4.out)).trans g1; have g2x := (hb5.cell (p := ⟨rg, (x - 97).toNat * 4 + 1, none⟩) (Nat.lt_trans HLT.out.2 HL4.out)).trans g2; have g3x := (hb5.cell (p := ⟨rg, (x - 97).toNat * 4 + 2, none⟩) (Nat.lt_trans HLT.out.2 HL4.out)).trans g3; have g4x := (hb5.cell (p := ⟨rg, (x - 97).toNat * 4 + 3, none⟩) (Nat.lt_trans HLT.out.2 HL4.out)).trans g4; have y1 : w5.frozen? ⟨w.heap.size, 1, none⟩ = false := Lib.frozen_of_heap HP5.out 1; have y2 : w5.frozen? ⟨w.heap.size, 2, none⟩ = false := Lib.frozen_of_heap HP5.out 2; have y3 : w5.frozen? ⟨w.heap.size, 3, none⟩ = false := Lib.frozen_of_heap HP5.out 3; have y4 : w5.frozen? ⟨w.heap.size, 4, none⟩ = false := Lib.frozen_of_heap HP5.out 4; have a1x : w5.cell? ⟨w.heap.size, 1, none⟩ = _ := Lib.cell_of_heap HP5.out 1; have a2x : w5.cell? ⟨w.heap.size, 2, none⟩ = _ := Lib.cell_of_heap HP5.out 2; have a3x : w5.cell? ⟨w.heap.size, 3, none⟩ = _ := Lib.cell_of_heap HP5.out 3; have a4x : w5.cell? ⟨w.heap.size, 4, none⟩ = _ := Lib.cell_of_heap HP5.out 4; clear hb5; (try dsimp only))
              refine hK.out _ _ ?_ (fun hHeld => ?_)
              · ((try dsimp only); (first | exact ⟨g0, g1, g2, g3, g4⟩ | exact ⟨g0x, g1x, g2x, g3x, g4x⟩ | (go_simp)))
              clear hK K
              try simp only [Act.put, List.setIfInBounds_toArray, List.set_cons_zero, List.set_cons_succ]
              refine wpAnyH_take (i := 10) (oi := _) (v := ?_) rfl (by kernel_rfl) (by kernel_rfl) (by kernel_rfl) (fun _ _ _ h => h) (Or.inl ⟨by rfl, ?_⟩) (by assumption) ?_
              rotate_left
              · (intro w hSw; (try dsimp only at hSw); go_simp; try with_reducible rfl)
              try simp only [Act.put, List.setIfInBounds_toArray, List.set_cons_zero, List.set_cons_succ]
              refine wpAnyH_ready (rs := [11]) (by kernel_rfl) (by simp) ?_
              refine AllReadyH.cons (o := _) rfl (fun K hK => ?_) AllReadyH.nil
              go_simp
              refine hK.out _ _ ?_ (fun hHeld => ?_)
              · ((try dsimp only); (first | exact ⟨g0, g1, g2, g3, g4⟩ | exact ⟨g0x, g1x, g2x, g3x, g4x⟩ | (go_simp)))
              clear hK K
              try simp only [Act.put, List.setIfInBounds_toArray, List.set_cons_zero, List.set_cons_succ]
              refine wpAnyH_done (by kernel_rfl) ?_ _
              first | refine NoPanic.normal ?_ | skip
              obtain ⟨W6, hW6⟩ : ∃ W6 : World, W6 = (((w5.setCell ⟨w.heap.size, 1, none⟩ (.int .i64 m0)).setCell ⟨w.heap.size, 2, none⟩ (.int .i64 m1)).setCell ⟨w.heap.size, 3, none⟩ (.int .i64 m2)).setCell ⟨w.heap.size, 4, none⟩ (.int .i64 m3) := ⟨_, rfl⟩
              rw [← hW6]
              obtain ⟨hp6, ho6, hs6, hb6⟩ := set4 HP5.out _ _ _ _ W6 hW6
              have HP6 := Aside0.mk hp6
              have HB6 := Aside0.mk (hb6 _ _ (Nat.le_refl _) (HB4.out.drew.trans (HB5.out.mono HB4.out.size)))
              have HS6 : Aside0 (W2.heap.size ≤ W6.heap.size) := ⟨by rw [hs6]; exact Nat.le_trans HS4.out HS5.out⟩
              have HRI6 := Aside0.mk (RI_move ((RI_move HRI4.out (W := W4.drew) rfl).below HB5.out) (ho6 _ (by omega)))
              obtain ⟨f0, f1, f2, f3, f4⟩ := HCF.out _ HB6.out
              clear hp6 ho6 hs6 hb6 hW6 g0 g1 g2 g3 g4 g0x g1x g2x g3x g4x a1 a2 a3 a4 a1x a2x a3x a4x y1 y2 y3 y4
              go_wp2_with (go_at_call 174; refine (area_any (d0, d1, d2, d3) HID.out.1 _).mono ?_; rintro e w7 ⟨rfl, hb7⟩; have HB7 := Aside0.mk hb7; clear hb7)
              have hca := HID.out.2
              have hcc := HD.out.1
              have hwr : wrap64 (C + areaB (d0, d1, d2, d3)) = C + areaB (d0, d1, d2, d3) := by unfold wrap64; omega
              have hval := HD.out.2.2.2.2.2.2.trans HST.out
              rw [if_pos HCOND.out, HD4.out, HBC.out, HM.out] at hval
              refine ⟨⟨k + 1, C + areaB (d0, d1, d2, d3), (m0, m1, m2, m3), by push_cast; rfl, by omega, by rw [hwr], ⟨by omega, (HB7.out.block _ (Array.getElem?_eq_some_iff.1 HP6.out).1).trans HP6.out, HB6.out.trans (HB7.out.mono HB6.out.size), Nat.le_trans HS6.out HB7.out.size, HRI6.out.below HB7.out, fun _ => HFM.out, hval⟩⟩, by simp [intOf]; omega⟩
        · rw [decide_eq_false hin] at HH
          have HFA : Aside0 (stuckByP cl boxes b = false) := ⟨by
            rw [HV.out, HD.out.2.2.2.2.2.2, HST.out]
            rw [decide_eq_false hin]; rfl⟩
          clear hin
          go_wp2_with (first | (go_at_call 173; refine HH.out.mono ?_; rintro e w3 ⟨rfl, hb3⟩))
          go_ret
          exact ⟨by rw [HFA.out]; rfl, HD.out.2.2.1.trans (hb3.mono HD.out.2.2.1.size)⟩
      · have hke : k = b.size := by omega
        subst hke
        obtain ⟨r, c, ph, pw, hR, p1, p2, p3, p4⟩ := HD.out.2.2.2.2.2.1 (by omega)
        obtain ⟨rfl, rfl, rfl, rfl⟩ : r0 = (r : Int) ∧ r1 = (c : Int) ∧ r2 = (ph : Int) ∧ r3 = (pw : Int) := by
          unfold natB at hR
          simpa only [Prod.mk.injEq] using hR
        have HVAL : Aside0 (stuckByP cl boxes b = (decide (C = areaB (natB r c ph pw)) && !cutB cl (natB r c ph pw))) := ⟨by
          rw [HV.out, HD.out.2.2.2.2.2.2, Nat.sub_self]; rfl⟩
        obtain ⟨o, ho⟩ : ∃ o, (cutsL cl r c ph pw).head? = o := ⟨_, rfl⟩
        have HCB : Aside0 (cutB cl (natB r c ph pw) = o.isSome) := ⟨by
          unfold cutB natB; simp only [Int.toNat_natCast]; rw [ho]⟩
        have HFI := Aside0.mk (fun W (hW : Below w.heap.size w W) => first_any fb h wd cl boxes W (HF.out.below hW) (by omega) (by omega) r c ph pw p3 p4 o ho)
        have HARI := Aside0.mk (BoxFl.in_ (h := h) (wd := wd) (A := natB r c ph pw) ⟨r, c, ph, pw, rfl, p1, p2, p3, p4⟩ hh hwd)
        have HP0 := Aside0.mk (HD.out.2.1)
        have HBL := Aside0.mk HD.out.2.2.1
        have HLT : Aside0 (w.heap.size < wr.heap.size) := ⟨(Array.getElem?_eq_some_iff.1 HP0.out).1⟩
        have z0 : wr.cell? ⟨w.heap.size, 0, none⟩ = some (.pointer (some ⟨fb, 0, none⟩)) := Lib.cell_of_heap HP0.out 0
        have z1 : wr.cell? ⟨w.heap.size, 1, none⟩ = some (.int .i64 r) := Lib.cell_of_heap HP0.out 1
        have z2 : wr.cell? ⟨w.heap.size, 2, none⟩ = some (.int .i64 c) := Lib.cell_of_heap HP0.out 2
        have z3 : wr.cell? ⟨w.heap.size, 3, none⟩ = some (.int .i64 ph) := Lib.cell_of_heap HP0.out 3
        have z4 : wr.cell? ⟨w.heap.size, 4, none⟩ = some (.int .i64 pw) := Lib.cell_of_heap HP0.out 4
        clear hR ho p1 p2 p3 p4 hk hlt
        unfold partV natB at HFI
        dsimp only at HFI
        go_wp2_with fail
        refine (HFI.out _ HBL.out).mono ?_
        rintro e w3 ⟨rfl, hb3⟩
        have HB3 := Aside0.mk (HBL.out.trans (hb3.mono HBL.out.size))
        have y0 := (hb3.cell (p := ⟨w.heap.size, 0, none⟩) HLT.out).trans z0
        have y1 := (hb3.cell (p := ⟨w.heap.size, 1, none⟩) HLT.out).trans z1
        have y2 := (hb3.cell (p := ⟨w.heap.size, 2, none⟩) HLT.out).trans z2
        have y3 := (hb3.cell (p := ⟨w.heap.size, 3, none⟩) HLT.out).trans z3
        have y4 := (hb3.cell (p := ⟨w.heap.size, 4, none⟩) HLT.out).trans z4
        have HLT3 : Aside0 (w.heap.size < w3.heap.size) := ⟨Nat.lt_of_lt_of_le HLT.out hb3.size⟩
        have hl3 := HLT3.out
        clear hb3 z0 z1 z2 z3 z4
        have ha9 := HARI.out.2
        obtain ⟨ar, har⟩ : ∃ ar, areaB (natB r c ph pw) = ar := ⟨_, rfl⟩
        rw [har] at HVAL ha9
        have HAR : Aside0 (∀ W, Calls Try.prog 174 #[.agg #[.int .i64 r, .int .i64 c, .int .i64 ph, .int .i64 pw]] W fun e w' => e = .returned (.int .i64 ar) ∧ Below W.heap.size W w') := ⟨fun W => by have := area_any (natB r c ph pw) HARI.out.1 W; rwa [har] at this⟩
        clear har
        by_cases hA : C = ar
        · rw [decide_eq_true hA, Bool.true_and] at HVAL
          subst hA
          cases o with
          | none =>
            simp only [firstV, noPieces, Option.isSome_none] at HCB ⊢
            go_wp2_with (go_at_call 174; refine (HAR.out _).mono ?_; rintro e w7 ⟨rfl, hb7⟩; have HB7 := Aside0.mk hb7; clear hb7)
            go_ret
            exact ⟨by rw [HVAL.out, HCB.out]; rfl, (HB3.out.alloc HB3.out.size _).trans (HB7.out.mono (by simp; omega))⟩
          | some x =>
            simp only [firstV, piecesV, Option.isSome_some] at HCB ⊢
            go_wp2_with (go_at_call 174; refine (HAR.out _).mono ?_; rintro e w7 ⟨rfl, hb7⟩; have HB7 := Aside0.mk hb7; clear hb7)
            go_ret
            exact ⟨by rw [HVAL.out, HCB.out]; rfl, (HB3.out.alloc HB3.out.size _).trans (HB7.out.mono (by simp; omega))⟩
        · rw [decide_eq_false hA, Bool.false_and] at HVAL
          cases o with
          | none =>
            simp only [firstV, noPieces, Option.isSome_none] at HCB ⊢
            go_wp2_with (go_at_call 174; refine (HAR.out _).mono ?_; rintro e w7 ⟨rfl, hb7⟩; have HB7 := Aside0.mk hb7; clear hb7)
            go_ret
            exact ⟨by rw [HVAL.out]; rfl, (HB3.out.alloc HB3.out.size _).trans (HB7.out.mono (by simp; omega))⟩
          | some x =>
            simp only [firstV, piecesV, Option.isSome_some] at HCB ⊢
            go_wp2_with (go_at_call 174; refine (HAR.out _).mono ?_; rintro e w7 ⟨rfl, hb7⟩; have HB7 := Aside0.mk hb7; clear hb7)
            go_ret
            exact ⟨by rw [HVAL.out]; rfl, (HB3.out.alloc HB3.out.size _).trans (HB7.out.mono (by simp; omega))⟩
end Go.Proofs.Ytdhnjecbdclmaaa
