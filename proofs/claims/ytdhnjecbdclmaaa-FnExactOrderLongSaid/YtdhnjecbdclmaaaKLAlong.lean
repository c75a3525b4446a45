/- The program's along: the rooms on both sides of a wall. -/
import Derived.Test.YtdhnjecbdclmaaaKLSpecTextM
import Derived.Test.YtdhnjecbdclmaaaKLJustP
import Derived.Test.YtdhnjecbdclmaaaKLShelfM
namespace Go.Proofs.Ytdhnjecbdclmaaa
open Go.RowKit Go.Shelf Go.Proofs.YtdhnjecbdclmaaaW.PrintWords Go.Proofs.YtdhnjecbdclmaaaW.PrintMore
set_option linter.unusedVariables false
set_option linter.unusedSimpArgs false
def sideAn (cl : Nat → Nat → Int) (x : WallT) (m : Nat) : List Int := (List.range m).map fun i => (sidesL cl x.1 x.2.1 (x.2.2.1 + i)).1
def sideBn (cl : Nat → Nat → Int) (x : WallT) (m : Nat) : List Int := (List.range m).map fun i => (sidesL cl x.1 x.2.1 (x.2.2.1 + i)).2
theorem sideAn_succ (cl : Nat → Nat → Int) (x : WallT) (m : Nat) : sideAn cl x (m + 1) = sideAn cl x m ++ [(sidesL cl x.1 x.2.1 (x.2.2.1 + m)).1] := by unfold sideAn; rw [List.range_succ, List.map_append]; rfl
theorem sideBn_succ (cl : Nat → Nat → Int) (x : WallT) (m : Nat) : sideBn cl x (m + 1) = sideBn cl x m ++ [(sidesL cl x.1 x.2.1 (x.2.2.1 + m)).2] := by unfold sideBn; rw [List.range_succ, List.map_append]; rfl
theorem sideAn_len (cl : Nat → Nat → Int) (x : WallT) (m : Nat) : (sideAn cl x m).length = m := by simp [sideAn]
theorem sideBn_len (cl : Nat → Nat → Int) (x : WallT) (m : Nat) : (sideBn cl x m).length = m := by simp [sideBn]
set_option maxRecDepth 100000 in
set_option maxHeartbeats 16000000 in
theorem along_any (fb h wd : Nat) (cl : Nat → Nat → Int) (boxes : List Box) (hh : 1 ≤ h ∧ h ≤ 6) (hw : 1 ≤ wd ∧ wd ≤ 6) (w : World) (hf : FloorR w fb h wd cl boxes) (x : WallT) (hl : 1 ≤ x.2.1 ∧ x.2.1 < if x.1 then h else wd) (h1 : 1 ≤ x.2.2.2) (h2 : x.2.2.1 + x.2.2.2 ≤ if x.1 then wd else h) :
    Calls Try.prog 194 #[.pointer (some ⟨fb, 0, none⟩), wallVal x] w fun e w' => (∃ A1 c1 A2 c2, e = .returned (.tuple #[.slice A1 (Lib.compact (sideA cl x)).length c1, .slice A2 (Lib.compact (sideB cl x)).length c2]) ∧ OwnI w' w.heap.size A1 (Lib.compact (sideA cl x)) ∧ OwnI w' w.heap.size A2 (Lib.compact (sideB cl x))) ∧ Below w.heap.size w w' := by
  have HF := Aside0.mk hf
  clear hf
  have HX : Aside0 (sideA cl x = sideAn cl x x.2.2.2 ∧ sideB cl x = sideBn cl x x.2.2.2) := ⟨rfl, rfl⟩
  obtain ⟨X, hX⟩ : ∃ X, x = X := ⟨_, rfl⟩
  obtain ⟨b, y1, y2, y3⟩ := x
  unfold wallVal
  dsimp only at HX hl h1 h2 ⊢
  have hle : y2 + y3 ≤ 6 := by
    cases b
    · simp only [Bool.false_eq_true, if_false] at h2; omega
    · simp only [if_true] at h2; omega
  have HSI : Aside0 (∀ W, Below w.heap.size w W → ∀ m, m < y3 → Calls Try.prog 212 #[.pointer (some ⟨fb, 0, none⟩), .bool b, .int .i64 y1, .int .i64 ((y2 : Int) + (m : Int))] W fun e w' => e = .returned (.tuple #[.int .i64 (sidesL cl b y1 (y2 + m)).1, .int .i64 (sidesL cl b y1 (y2 + m)).2]) ∧ Below W.heap.size W w') := ⟨fun W hW m hm => by
    have := sides_any fb h wd cl boxes W (HF.out.below hW) (by omega) (by omega) b y1 (y2 + m) hl.1 (by
      cases b
      · simp only [Bool.false_eq_true, if_false] at hl h2 ⊢; omega
      · simp only [if_true] at hl h2 ⊢; omega)
    rwa [show ((y2 + m : Nat) : Int) = (y2 : Int) + (m : Int) by omega] at this⟩
  clear h2 hl
  rw [hX] at HX ⊢
  have HXX := Aside0.mk hX
  clear hX
  go_enter Try.func194, Try.ntmps194
  go_wp2_with fail
  obtain ⟨W1, hW1⟩ : ∃ W1 : World, W1 = w.alloc (.cells #[.bool b, .int .i64 y1, .int .i64 y2, .int .i64 y3] 116) := ⟨_, rfl⟩
  rw [← hW1]
  have HB1 : Aside0 (Below w.heap.size w W1 ∧ W1.heap.size = w.heap.size + 1) := ⟨by rw [hW1]; exact ⟨(Below.refl _ _).alloc (Nat.le_refl _) _, by simp⟩⟩
  have HL1 : Aside0 (W1.heap[w.heap.size]? = some (.cells #[.bool b, .int .i64 y1, .int .i64 y2, .int .i64 y3] 116 (0, 0))) := ⟨by rw [hW1]; exact heap_alloc_new w _⟩
  clear hW1
  have d0 := blk_cell HL1.out 2
  simp at d0
  go_wp2_with fail
  go_loopw [6, 7, 8] (fun v u s wr => ∃ m : Nat, s = .int .i64 ((y2 : Int) + (m : Int)) ∧ m ≤ y3 ∧ Aside0 (Two wr (w.heap.size + 1) v u (sideAn cl X m) (sideBn cl X m) ∧ Below (w.heap.size + 1) W1 wr)) (fun _ _ s _ => (y2 + y3) - (intOf s).toNat)
  case atStart => exact ⟨0, by simp, by omega, ⟨Two.nil _ _, Below.refl _ _⟩⟩
  case round =>
    obtain ⟨m, rfl, hm, HD⟩ := hrel
    have HBR : Aside0 (Below w.heap.size w wr) := ⟨HB1.out.1.trans (HD.out.2.mono (by omega))⟩
    have hlit := (HD.out.2.block w.heap.size (by omega)).trans HL1.out
    have c0 := blk_cell hlit 0
    have c1 := blk_cell hlit 1
    have c2 := blk_cell hlit 2
    have c3 := blk_cell hlit 3
    simp at c0 c1 c2 c3
    clear hlit d0
    by_cases hlt : (y2 : Int) + (m : Int) < (y2 : Int) + (y3 : Int)
    · have HC := Aside0.mk (HSI.out wr HBR.out m (by omega))
      have HSA := Aside0.mk (sideAn_succ cl X m)
      have HSB := Aside0.mk (sideBn_succ cl X m)
      obtain ⟨⟨p, q⟩, hpq⟩ : ∃ pq, sidesL cl b y1 (y2 + m) = pq := ⟨_, rfl⟩
      rw [hpq] at HC
      have HPQ : Aside0 (sidesL cl X.1 X.2.1 (X.2.2.1 + m) = (p, q)) := ⟨by rw [← HXX.out]; exact hpq⟩
      rw [HPQ.out] at HSA HSB
      clear hpq
      go_wp2_with fail
      refine HC.out.mono ?_
      rintro e w3 ⟨rfl, hb3⟩
      have HTW := Aside0.mk (HD.out.1.below hb3)
      have HBB : Aside0 (Below (w.heap.size + 1) W1 w3 ∧ w.heap.size + 1 ≤ w3.heap.size) := ⟨HD.out.2.trans (hb3.mono (by have := HD.out.2.size; have := HB1.out.2; omega)), by have := HD.out.2.size; have := HB1.out.2; have := hb3.size; omega⟩
      clear hb3 c0 c1 c2 c3
      go_wp2_with (first
        | (at_builtin; refine print_append_num (w0 := W1) (w.heap.size + 1) rfl (.tmp 32) (.tmp 34) 37 3 .i64 8 rfl Try.underlying37 (by kernel_rfl) (by omega) _ (sideAn cl X m) p rfl rfl ?k1 HBB.out.1 HBB.out.2 ?k2 ?_; (case k1 => exact HTW.out.one); (case k2 => rw [sideAn_len]; omega); intro v1 w1 ho hB hg hat; have HT1 := Aside0.mk (HTW.out.grow ho hg hat); have HB4 : Aside0 (Below (w.heap.size + 1) W1 w1 ∧ w.heap.size + 1 ≤ w1.heap.size) := ⟨hB, by have := hg.size; have := HBB.out.2; omega⟩; clear ho hB hg hat)
        | (at_builtin; refine print_append_num (w0 := W1) (w.heap.size + 1) rfl (.tmp 36) (.tmp 38) 37 3 .i64 8 rfl Try.underlying37 (by kernel_rfl) (by omega) _ (sideBn cl X m) q rfl rfl ?k1 HB4.out.1 HB4.out.2 ?k2 ?_; (case k1 => exact HT1.out.two); (case k2 => rw [sideBn_len]; omega); intro v2 w2 ho hB hg hat; have HT2 := Aside0.mk (HT1.out.swap.grow ho hg hat).swap; have HB5 := Aside0.mk hB; clear ho hB hg hat))
      go_roundw
      case rel => exact ⟨m + 1, by go_num, by omega, ⟨by rw [HSA.out, HSB.out]; exact HT2.out, HB5.out⟩⟩
      case measure => simp [intOf]; omega
    · obtain rfl : m = y3 := by omega
      obtain ⟨A1, n1, e1⟩ := own_slice HD.out.1.one
      obtain ⟨A2, n2, e2⟩ := own_slice HD.out.1.two
      subst e1 e2
      obtain ⟨g1, rfl, _, k1, b1, s1, hH1⟩ := own_holds HD.out.1.one (by rw [sideAn_len]; omega)
      obtain ⟨g2, rfl, _, k2, b2, s2, hH2⟩ := own_holds HD.out.1.two (by rw [sideBn_len]; omega)
      have hne : g2 ≠ g1 := fun e => HD.out.1.apart g1 rfl (by rw [e]; rfl)
      have HC1 := Aside0.mk (compactI_any g1 n1 (sideAn cl X m) (by rw [sideAn_len]; omega) k1 wr hH1)
      have HC2 : Aside0 (∀ W, wr.grownBy W (some g1) → Calls Try.prog 159 #[.slice (some ⟨g2, 0, none⟩) (sideBn cl X m).length n2] W fun e w' => e = .returned (.slice (some ⟨g2, 0, none⟩) (Lib.compact (sideBn cl X m)).length n2) ∧ W.grownBy w' (some g2) ∧ ∀ k (hk : k < (Lib.compact (sideBn cl X m)).length), w'.cell? ⟨g2, k, none⟩ = some (.int .i64 (Lib.compact (sideBn cl X m))[k])) := ⟨fun W hW => compactI_any g2 n2 (sideBn cl X m) (by rw [sideBn_len]; omega) k2 W (fun j hj => by
        have hb : W.heap[g2]? = wr.heap[g2]? := hW.block g2 s2 (by simpa using hne)
        have := hH2 j hj
        exact ⟨(World.cell?_of_block hb).trans this.1, (World.frozen?_of_block hb).trans this.2⟩)⟩
      have HS : Aside0 (w.heap.size + 1 ≤ g1 ∧ g1 < wr.heap.size ∧ w.heap.size + 1 ≤ g2 ∧ g2 < wr.heap.size ∧ g2 ≠ g1) := ⟨b1, s1, b2, s2, hne⟩
      clear k1 k2 b1 b2 s1 s2 hH1 hH2 hne
      go_wp2_with fail
      refine HC1.out.mono ?_
      rintro e w4 ⟨rfl, hg4, hc4⟩
      have HG4 := Aside0.mk hg4
      have HD4 := Aside0.mk hc4
      clear hg4 hc4
      go_wp2_with fail
      refine (HC2.out w4 HG4.out).mono ?_
      rintro e w5 ⟨rfl, hg5, hc5⟩
      have HG5 := Aside0.mk hg5
      have HD5 := Aside0.mk hc5
      clear hg5 hc5
      go_wp2_with fail
      go_ret2
      obtain ⟨t1, t2, t3, t4, t5⟩ := HS.out
      have z4 := HG4.out.size
      have z5 := HG5.out.size
      rw [HX.out.1, HX.out.2]
      refine ⟨⟨some ⟨g1, 0, none⟩, n1, some ⟨g2, 0, none⟩, n2, rfl, ⟨g1, rfl, by omega, by omega, fun k hk => ?_⟩, ⟨g2, rfl, by omega, by omega, fun k hk => HD5.out k hk⟩⟩, ?_⟩
      · rw [World.cell?_of_block (w := w4) (HG5.out.block g1 (by omega) (by simp; omega))]
        exact HD4.out k hk
      · have q1 := HBR.out.grown HG4.out (by omega) (fun k hk => by injection hk with hk; omega)
        exact q1.grown HG5.out (by omega) (fun k hk => by injection hk with hk; omega)
end Go.Proofs.Ytdhnjecbdclmaaa
