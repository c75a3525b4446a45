/- Texts of this claim's, joined by a program: YWallMany, YWallEnds, YCutN, YCutMany, YTurned. -/
import Derived.Test.YtdhnjecbdclmaaaKYWalls
import Derived.Test.YtdhnjecbdclmaaaKYSpecTextM
import Derived.Test.YtdhnjecbdclmaaaKYFourDM
import Derived.Test.YtdhnjecbdclmaaaKYRemade
section
namespace Go.Proofs.Ytdhnjecbdclmaaa
open Go.RowKit Go.Shelf Go.Proofs.YtdhnjecbdclmaaaW.PrintWords Go.Proofs.YtdhnjecbdclmaaaW.PrintMore
set_option linter.unusedVariables false
set_option linter.unusedSimpArgs false
def wallVal (x : WallT) : Value := .agg #[.bool x.1, .int .i64 x.2.1, .int .i64 x.2.2.1, .int .i64 x.2.2.2]
theorem end_any (fb h wd : Nat) (cl : Nat → Nat → Int) (boxes : List Box) (hh : 1 ≤ h) (w : World) (hf : FloorR w fb h wd cl boxes) (x : WallT) :
    Calls Try.prog 142 #[.pointer (some ⟨fb, 0, none⟩), wallVal x] w fun e w' => e = .returned (.int .i64 ((if x.1 then wd else h : Nat) : Int)) ∧ Below w.heap.size w w' := by
  have HHI : Aside0 (∀ W, Below w.heap.size w W → Calls Try.prog 120 #[.pointer (some ⟨fb, 0, none⟩)] W fun e w' => e = .returned (.int .i64 h) ∧ w' = W) := ⟨fun W hW => by
    obtain ⟨g, rb, RA, rc, h1, h2, h3, h4, h5, h6⟩ := hf
    exact high_any _ _ h h W ((hW.cell (p := ⟨fb, 0, none⟩) h1).trans h3)⟩
  have HWI : Aside0 (∀ W, Below w.heap.size w W → Calls Try.prog 113 #[.pointer (some ⟨fb, 0, none⟩)] W fun e w' => e = .returned (.int .i64 wd) ∧ w' = W) := ⟨fun W hW => by
    obtain ⟨g, rb, RA, rc, h1, h2, h3, h4, h5, h6⟩ := hf
    obtain ⟨b1, b2, b3⟩ := h5 0 (by omega)
    exact wide_any _ g h h hh _ wd wd W ((hW.cell (p := ⟨fb, 0, none⟩) h1).trans h3) ((hW.cell (p := ⟨g, 0, none⟩) h2).trans b2)⟩
  clear hf
  obtain ⟨b, y1, y2, y3⟩ := x
  unfold wallVal
  dsimp only
  have HB : Aside0 (∀ o, Below w.heap.size w (w.alloc o)) := ⟨fun o => (Below.refl _ _).alloc (Nat.le_refl _) _⟩
  cases b with
  | true =>
    simp only [if_true]
    go_enter Try.func142, Try.ntmps142
    go_wp2_with fail
    refine (HWI.out _ (HB.out _)).mono ?_
    rintro e w2 ⟨rfl, rfl⟩
    go_wp2_with fail
    go_ret
    exact ⟨rfl, HB.out _⟩
  | false =>
    simp only [Bool.false_eq_true, if_false]
    go_enter Try.func142, Try.ntmps142
    go_wp2_with fail
    refine (HHI.out _ (HB.out _)).mono ?_
    rintro e w2 ⟨rfl, rfl⟩
    go_wp2_with fail
    go_ret
    exact ⟨rfl, HB.out _⟩
end Go.Proofs.Ytdhnjecbdclmaaa
end
section
namespace Go.Proofs.Ytdhnjecbdclmaaa
open Go.RowKit Go.Shelf Go.Proofs.YtdhnjecbdclmaaaW.PrintWords Go.Proofs.YtdhnjecbdclmaaaW.PrintMore
set_option linter.unusedVariables false
set_option linter.unusedSimpArgs false
end Go.Proofs.Ytdhnjecbdclmaaa
end
section
namespace Go.Proofs.Ytdhnjecbdclmaaa
open Go.RowKit Go.Shelf Go.Proofs.YtdhnjecbdclmaaaW.PrintWords Go.Proofs.YtdhnjecbdclmaaaW.PrintMore
set_option linter.unusedVariables false
set_option linter.unusedSimpArgs false
theorem runs_all (df : Nat → Bool) : ∀ n, (∀ k, k < n + 1 → df k = true) → runs df none 0 (n + 1) = [(0, n + 1)] := by
  intro n
  induction n with
  | zero =>
    intro h
    rw [runs_snoc, if_pos (h 0 (by omega)), if_neg (by unfold openB; simp)]
    rfl
  | succ n ih =>
    intro h
    rw [runs_snoc, if_pos (h (n + 1) (by omega)), if_pos (by unfold openB; rw [if_neg (Nat.succ_ne_zero n)]; exact h n (by omega)), ih fun k hk => h k (by omega)]
    rfl
theorem row_long (cl : Nat → Nat → Int) (level : Bool) (line : Nat) {n : Nat} (hn : 1 ≤ n) : ((wallsRow cl level line n).filter fun x => x.2.2.2 == n).length = if throughL cl level line 0 n = true then 1 else 0 := by
  obtain ⟨m, rfl⟩ : ∃ m, n = m + 1 := ⟨n - 1, by omega⟩
  by_cases h : throughL cl level line 0 (m + 1) = true
  · rw [if_pos h]
    have hall : ∀ k, k < m + 1 → dfL cl level line k = true := fun k hk => by
      have := (throughL_iff ..).1 h k hk
      unfold dfL
      rw [Nat.zero_add] at this
      exact bne_iff_ne.2 this
    unfold wallsRow
    rw [runs_all _ m hall]
    simp
  · rw [if_neg h]
    have : ((wallsRow cl level line (m + 1)).filter fun x => x.2.2.2 == m + 1) = [] := by
      rw [List.filter_eq_nil_iff]
      intro x hx e
      obtain ⟨_, _, _, b, c⟩ := wallsRow_in hx
      have e : x.2.2.2 = m + 1 := by simpa using e
      apply h
      rw [throughL_iff]
      intro i hi
      have := c i (by omega) (by omega)
      unfold dfL at this
      rw [Nat.zero_add]
      exact bne_iff_ne.1 this
    rw [this]; rfl
theorem from_long (cl : Nat → Nat → Int) (level : Bool) {n : Nat} (hn : 1 ≤ n) : ∀ d, ((wallsFrom cl level n d).filter fun x => x.2.2.2 == n).length = (linesL cl level 0 0 n d).length := by
  intro d
  induction d with
  | zero => rfl
  | succ d ih =>
    unfold wallsFrom linesL
    rw [List.filter_append, List.length_append, List.length_append, ih, row_long cl level (1 + d) hn, show 0 + 1 + d = 1 + d by omega]
    congr 1
    split <;> rfl
theorem cuts_walls (cl : Nat → Nat → Int) {h wd : Nat} (hh : 1 ≤ h) (hw : 1 ≤ wd) : ((wallsL cl h wd).filter fun x => x.2.2.2 == (if x.1 then wd else h)).length = (cutsL cl 0 0 h wd).length := by
  unfold wallsL cutsL
  rw [List.filter_append, List.length_append, List.length_append]
  congr 1
  · rw [← from_long cl false hh (wd - 1)]
    congr 1
    refine List.filter_congr fun x hx => ?_
    rw [(wallsFrom_in hx).1]; rfl
  · rw [← from_long cl true hw (h - 1)]
    congr 1
    refine List.filter_congr fun x hx => ?_
    rw [(wallsFrom_in hx).1]; rfl
end Go.Proofs.Ytdhnjecbdclmaaa
end
section
namespace Go.Proofs.Ytdhnjecbdclmaaa
open Go.RowKit Go.Shelf Go.Proofs.YtdhnjecbdclmaaaW.PrintWords Go.Proofs.YtdhnjecbdclmaaaW.PrintMore
set_option linter.unusedVariables false
set_option linter.unusedSimpArgs false
def isCut (h wd : Nat) (x : WallT) : Bool := x.2.2.2 == (if x.1 then wd else h)
def cutI (L : List WallT) (h wd : Nat) : Nat → List Int
  | 0 => []
  | k + 1 => cutI L h wd k ++ if isCut h wd (L.getD k (false, 0, 0, 0)) = true then [(k : Int)] else []
theorem cutI_len (L : List WallT) (h wd : Nat) : ∀ k, (cutI L h wd k).length ≤ k := by
  intro k
  induction k with
  | zero => exact Nat.le_refl _
  | succ k ih =>
    unfold cutI
    rw [List.length_append]
    split <;> simp <;> omega
theorem cutI_cnt (L : List WallT) (h wd : Nat) : ∀ k, k ≤ L.length → (cutI L h wd k).length = ((L.take k).filter (isCut h wd)).length := by
  intro k
  induction k with
  | zero => intro _; rfl
  | succ k ih =>
    intro hk
    unfold cutI
    rw [List.length_append, ih (by omega), List.take_succ_eq_append_getElem (by omega), List.filter_append, List.length_append]
    congr 1
    rw [List.getD_eq_getElem?_getD, List.getElem?_eq_getElem (by omega), Option.getD_some]
    by_cases e : isCut h wd L[k] = true
    · rw [if_pos e]; simp [e]
    · rw [if_neg e]; simp [e]
def cutManyP (p : List ByteArray) : Int × Bool := if planG p then ((((cutsL (clP p) 0 0 p.length (wdP p)).length : Nat) : Int), true) else (0, false)
set_option maxRecDepth 100000 in
set_option maxHeartbeats 16000000 in
theorem cutting_any (fb h wd : Nat) (cl : Nat → Nat → Int) (boxes : List Box) (hh : 1 ≤ h ∧ h ≤ 6) (hw : 1 ≤ wd ∧ wd ≤ 6) (w : World) (hf : FloorR w fb h wd cl boxes) :
    Calls Try.prog 148 #[.pointer (some ⟨fb, 0, none⟩)] w fun e w' => (∃ A c, e = .returned (.slice A (cutsL cl 0 0 h wd).length c)) ∧ Below w.heap.size w w' := by
  have HWL : Aside0 (∀ W, Below w.heap.size w W → Calls Try.prog 141 #[.pointer (some ⟨fb, 0, none⟩)] W fun e w' => (∃ A c, e = .returned (.slice A (wallsL cl h wd).length c) ∧ WallsW w' W.heap.size (.slice A (wallsL cl h wd).length c) (wallsL cl h wd)) ∧ Below W.heap.size W w') := ⟨fun W hW => walls_any fb h wd cl boxes hh hw W (hf.below hW)⟩
  have HENX := Aside0.mk (fun W (hW : Below w.heap.size w W) x => end_any fb h wd cl boxes hh.1 W (hf.below hW) x)
  have hln := wallsL_len cl hh.2 hw.2
  have hin : ∀ x ∈ wallsL cl h wd, x.2.2.1 + x.2.2.2 ≤ 6 := fun x hx => by
    have := (wallsL_in hx).2.2.1
    split at this <;> omega
  have hval : (cutsL cl 0 0 h wd).length = (cutI (wallsL cl h wd) h wd (wallsL cl h wd).length).length := by
    rw [cutI_cnt _ _ _ _ (Nat.le_refl _), List.take_length, ← cuts_walls cl hh.1 hw.1]; rfl
  rw [hval]
  obtain ⟨L, hL⟩ : ∃ L, wallsL cl h wd = L := ⟨_, rfl⟩
  rw [hL] at HWL hln hin ⊢
  have HIN := Aside0.mk hin
  clear hval hL hin hf
  go_enter Try.func148, Try.ntmps148
  go_wp2_with fail
  refine (HWL.out _ (Below.refl _ _)).mono ?_
  rintro e w2 ⟨⟨A2, c2, rfl, hW2⟩, hb2⟩
  obtain ⟨n, hn⟩ : ∃ n, L.length = n := ⟨_, rfl⟩
  have HB2 := Aside0.mk hb2
  have HW2 := Aside0.mk hW2
  have HN := Aside0.mk hn
  clear hb2 hW2
  rw [hn] at hln ⊢
  have HW3 : Aside0 (WallsW w2 w.heap.size (.slice A2 n c2) L) := ⟨by rw [← hn]; exact HW2.out⟩
  clear hn HW2
  go_wp2
  go_loopw [3, 9] (fun v i wr => ∃ (k m c : Nat) (A : Option Addr), i = .int .i64 k ∧ k ≤ n ∧ v = .slice A m c ∧ Aside0 (m = (cutI L h wd k).length ∧ wr.ownsRow w.heap.size 3 1 (.slice A m c) m (nums .i64 (cutI L h wd k)) ∧ WallsW wr w.heap.size (.slice A2 n c2) L ∧ Below w.heap.size w wr)) (fun _ i _ => n - (intOf i).toNat)
  case atStart => exact ⟨0, 0, 0, none, rfl, Nat.zero_le _, rfl, ⟨rfl, World.ownsRow_nil _ _ _ _, HW3.out, HB2.out⟩⟩
  case round =>
    obtain ⟨k, m, c, A, rfl, hk, rfl, HD⟩ := hrel
    by_cases hlt : (k : Int) < (n : Int)
    · obtain ⟨g, c9, hA, hc9, hg1, hg2, ⟨cs9, hcs9⟩, hcell⟩ := HD.out.2.2.1.form (by rw [HN.out]; omega)
      injection hA with hA hA2 hA3
      subst hA hA3
      have hkl : k < L.length := by rw [HN.out]; omega
      obtain ⟨f0, f1, f2, f3⟩ := hcell k hkl
      have hin := HIN.out _ (List.getElem_mem hkl)
      have hstep : cutI L h wd (k + 1) = cutI L h wd k ++ if isCut h wd L[k] = true then [(k : Int)] else [] := by
        show cutI L h wd k ++ _ = _
        rw [List.getD_eq_getElem?_getD, List.getElem?_eq_getElem hkl, Option.getD_some]
      have hIl := cutI_len L h wd k
      obtain ⟨⟨lv, y1, y2, y3⟩, hx⟩ : ∃ x, L[k] = x := ⟨_, rfl⟩
      rw [hx] at f0 f1 f2 f3 hin hstep
      unfold isCut at hstep
      dsimp only at f0 f1 f2 f3 hin hstep
      have n9 : (n : Int) ≤ (c2 : Int) := by rw [HN.out] at hc9; omega
      have HG2 := Aside0.mk hg2
      have HG1 := Aside0.mk hg1
      have HA2 := Aside0.mk hA2
      obtain ⟨E, hE⟩ : ∃ E, (if lv then wd else h) = E := ⟨_, rfl⟩
      have hEE : E ≤ 6 := by rw [← hE]; split <;> omega
      rw [hE] at hstep
      have hC4 := heap_alloc_new wr (.cells #[.bool lv, .int .i64 (y1 : Int), .int .i64 (y2 : Int), .int .i64 (y3 : Int)] 116)
      have HC4 : Aside0 ((wr.alloc (.cells #[.bool lv, .int .i64 (y1 : Int), .int .i64 (y2 : Int), .int .i64 (y3 : Int)] 116)).cell? ⟨wr.heap.size, 0, none⟩ = some (.bool lv) ∧ (wr.alloc (.cells #[.bool lv, .int .i64 (y1 : Int), .int .i64 (y2 : Int), .int .i64 (y3 : Int)] 116)).cell? ⟨wr.heap.size, 1, none⟩ = some (.int .i64 (y1 : Int)) ∧ (wr.alloc (.cells #[.bool lv, .int .i64 (y1 : Int), .int .i64 (y2 : Int), .int .i64 (y3 : Int)] 116)).cell? ⟨wr.heap.size, 2, none⟩ = some (.int .i64 (y2 : Int)) ∧ (wr.alloc (.cells #[.bool lv, .int .i64 (y1 : Int), .int .i64 (y2 : Int), .int .i64 (y3 : Int)] 116)).cell? ⟨wr.heap.size, 3, none⟩ = some (.int .i64 (y3 : Int))) := ⟨by
        rw [blk_cell hC4 0, blk_cell hC4 1, blk_cell hC4 2, blk_cell hC4 3]
        exact ⟨rfl, rfl, rfl, rfl⟩⟩
      have HBA : Aside0 (Below w.heap.size w (wr.alloc (.cells #[.bool lv, .int .i64 (y1 : Int), .int .i64 (y2 : Int), .int .i64 (y3 : Int)] 116))) := ⟨HD.out.2.2.2.alloc HD.out.2.2.2.size _⟩
      have HEN : Aside0 (∀ W, Below w.heap.size w W → Calls Try.prog 142 #[.pointer (some ⟨fb, 0, none⟩), .agg #[.bool lv, .int .i64 (y1 : Int), .int .i64 (y2 : Int), .int .i64 (y3 : Int)]] W fun e w' => e = .returned (.int .i64 (E : Int)) ∧ Below W.heap.size W w') := ⟨fun W hW => by have := HENX.out W hW (lv, y1, y2, y3); dsimp only at this; rw [hE] at this; exact this⟩
      have HFB : Aside0 (∀ w3, Below (wr.heap.size + 1) (wr.alloc (.cells #[.bool lv, .int .i64 (y1 : Int), .int .i64 (y2 : Int), .int .i64 (y3 : Int)] 116)) w3 → Below wr.heap.size wr w3) := ⟨fun w3 h3 => ((Below.refl _ _).alloc (Nat.le_refl _) _).trans (h3.mono (by omega))⟩
      have HST := Aside0.mk hstep
      clear hcs9 hcell hx hg2 hg1 hA2 hc9 hkl hC4 hE hstep
      by_cases c1 : y3 = E
      all_goals
        have d2 : ((y3 : Int) == (E : Int)) = decide (y3 = E) := by
          by_cases e : y3 = E
          · rw [decide_eq_true e, beq_iff_eq]; omega
          · rw [decide_eq_false e, beq_eq_false_iff_ne]; omega
        first | rw [decide_eq_true c1] at d2 | rw [decide_eq_false c1] at d2
        have HC1 := Aside0.mk c1
        clear c1
        go_wp2_with fail
        go_region_held3 (fun w' => w'.cell? ⟨wr.heap.size, 0, none⟩ = some (.bool lv) ∧ w'.cell? ⟨wr.heap.size, 1, none⟩ = some (.int .i64 (y1 : Int)) ∧ w'.cell? ⟨wr.heap.size, 2, none⟩ = some (.int .i64 (y2 : Int)) ∧ w'.cell? ⟨wr.heap.size, 3, none⟩ = some (.int .i64 (y3 : Int))) (first
          | exact HC4.out
          | exact HC4x.out
          | (go_simp)) ((go_at_call 142; refine Calls.mono (HEN.out _ (by repeat (first | exact HBA.out | apply pw_below_drewN))) ?_; rintro e w3 ⟨rfl, hb3⟩; have HB3 : Aside0 (Below (wr.heap.size + 1) (wr.alloc (.cells #[.bool lv, .int .i64 (y1 : Int), .int .i64 (y2 : Int), .int .i64 (y3 : Int)] 116)) w3) := ⟨⟨hb3.os, hb3.tape, hb3.output, hb3.size, fun q hq => hb3.block q (by simp; omega)⟩⟩; have HC4x : Aside0 (w3.cell? ⟨wr.heap.size, 0, none⟩ = some (.bool lv) ∧ w3.cell? ⟨wr.heap.size, 1, none⟩ = some (.int .i64 (y1 : Int)) ∧ w3.cell? ⟨wr.heap.size, 2, none⟩ = some (.int .i64 (y2 : Int)) ∧ w3.cell? ⟨wr.heap.size, 3, none⟩ = some (.int .i64 (y3 : Int))) := ⟨by have h9 : ∀ o, w3.cell? ⟨wr.heap.size, o, none⟩ = (wr.alloc (.cells #[.bool lv, .int .i64 (y1 : Int), .int .i64 (y2 : Int), .int .i64 (y3 : Int)] 116)).cell? ⟨wr.heap.size, o, none⟩ := fun o => hb3.cell (p := ⟨wr.heap.size, o, none⟩) (by simp); rw [h9, h9, h9, h9]; exact HC4.out⟩; clear hb3))
      · have HS : Aside0 (cutI L h wd (k + 1) = cutI L h wd k ++ [(k : Int)]) := ⟨by rw [HST.out, if_pos (by rw [beq_iff_eq]; exact HC1.out)]⟩
        clear HST HC1
        go_wp2_with (at_builtin; refine print_append_num (w0 := w) w.heap.size rfl (.tmp 20) (.tmp 22) 37 3 .i64 8 rfl Try.underlying37 (by kernel_rfl) (by omega) _ (cutI L h wd k) (k : Int) rfl rfl ?k1 ?k4 ?k3 ?k2 ?_; (case k1 => rw [← HD.out.1]; exact pw_own_below HD.out.2.1 (HFB.out _ HB3.out)); (case k4 => exact HD.out.2.2.2.trans ((HFB.out _ HB3.out).mono HD.out.2.2.2.size)); (case k3 => have h1 := HD.out.2.2.2.size; have h2 := (HFB.out _ HB3.out).size; omega); (case k2 => omega); intro v1 w1 ho hB hg hat; have HO1 := Aside0.mk ho; have HB4 := Aside0.mk hB; have HGR := Aside0.mk hg; clear ho hB hg hat)
        obtain ⟨A1, c1, rfl⟩ := own_slice HO1.out
        go_wp2
        go_roundw
        case rel =>
          refine ⟨k + 1, (cutI L h wd k ++ [(k : Int)]).length, c1, A1, by go_num, by omega, rfl, ⟨by rw [HS.out], by rw [HS.out]; exact HO1.out, ?_, HB4.out⟩⟩
          have hw3 := HD.out.2.2.1.below (HFB.out _ HB3.out)
          have hi3 := pw_own_below HD.out.2.1 (HFB.out _ HB3.out)
          refine hw3.move fun j hj => HGR.out.block j (hw3.lt j hj).2 (fun e => ?_)
          obtain ⟨cs1, h1⟩ := own_typed hw3 j hj
          obtain ⟨cs2, h2⟩ := own_typed hi3 j e.symm
          rw [h1] at h2
          injection h2 with h2
          injection h2 with _ h2
          exact absurd h2 (by decide)
        case measure => simp [intOf]; omega
      · have HS : Aside0 (cutI L h wd (k + 1) = cutI L h wd k) := ⟨by rw [HST.out, if_neg (by rw [beq_iff_eq]; exact HC1.out), List.append_nil]⟩
        clear HST HC1
        go_wp2
        go_roundw
        case rel => exact ⟨k + 1, m, c, A, by go_num, by omega, rfl, ⟨by rw [HS.out]; exact HD.out.1, by rw [HS.out]; exact pw_own_below HD.out.2.1 (HFB.out _ HB3.out), HD.out.2.2.1.below (HFB.out _ HB3.out), HD.out.2.2.2.trans ((HFB.out _ HB3.out).mono HD.out.2.2.2.size)⟩⟩
        case measure => simp [intOf]; omega
    · have hkn : k = n := by omega
      have hm := HD.out.1
      rw [hkn, ← HN.out] at hm
      have HM := Aside0.mk hm
      clear hkn hm
      go_wp2
      go_ret
      exact ⟨⟨A, c, by rw [← HM.out]; rfl⟩, HD.out.2.2.2⟩
set_option maxHeartbeats 4000000 in
theorem cutMany_any (A : Option Addr) (cap : Nat) (p : List ByteArray) (hp : SmallP p) (w : World) (hr0 : Kd.C Kd.string w A p.length p) (hc0 : p.length ≤ cap) :
    Calls Try.prog 80 #[.slice A p.length cap] w fun e w' => e = .returned (.tuple #[.int .i64 (cutManyP p).1, .bool (cutManyP p).2]) ∧ Below w.heap.size w w' := by
  have HFL := floorOf_any A cap p hp.1 hp.2 w hr0 hc0
  clear hr0
  go_enter Try.func80, Try.ntmps80
  go_wp2_with fail
  refine HFL.mono ?_
  rintro e w1 ⟨hb1, ⟨hpl, fb, base, rfl, hbase, hfl⟩ | ⟨hpl, o, rfl⟩⟩
  · have HB1 := Aside0.mk hb1
    have HCT := Aside0.mk (cutting_any fb p.length (wdP p) (clP p) (boxesP p) (planFlat hpl).high (planFlat hpl).wide w1 hfl.reads)
    have hval : cutManyP p = ((((cutsL (clP p) 0 0 p.length (wdP p)).length : Nat) : Int), true) := by unfold cutManyP; rw [if_pos hpl]
    obtain ⟨N, hN⟩ : ∃ N, (cutsL (clP p) 0 0 p.length (wdP p)).length = N := ⟨_, rfl⟩
    rw [hN] at hval HCT
    have HV := Aside0.mk hval
    clear hb1 hpl hfl hval hN
    go_wp2_with fail
    refine HCT.out.mono ?_
    rintro e w2 ⟨⟨A2, c2, rfl⟩, hb2⟩
    have HB2 := Aside0.mk hb2
    clear hb2
    go_wp2_with fail
    go_ret2
    exact ⟨by rw [HV.out]; rfl, HB1.out.trans (HB2.out.mono HB1.out.size)⟩
  · have HB1 := Aside0.mk hb1
    have hval : cutManyP p = (0, false) := by unfold cutManyP; rw [hpl]; rfl
    have HV := Aside0.mk hval
    clear hb1 hpl hval
    go_wp2_with fail
    go_ret2
    exact ⟨by rw [HV.out]; rfl, HB1.out⟩
end Go.Proofs.Ytdhnjecbdclmaaa
end
section
namespace Go.Proofs.Ytdhnjecbdclmaaa
open Go.RowKit Go.Shelf Go.Proofs.YtdhnjecbdclmaaaW.PrintWords Go.Proofs.YtdhnjecbdclmaaaW.PrintMore
set_option linter.unusedVariables false
def MadeE (cl : Nat → Nat → Int) (h wd : Nat) (w w' : World) (e : Ending) : Prop := ∃ (q : List ByteArray) (A : Option Addr) (c : Nat), e = .returned (.tuple #[.slice A q.length c, .bool true]) ∧ Aside0 (Planned cl h wd q ∧ SmallP q ∧ q.length ≤ c ∧ Kd.C Kd.string w' A q.length q ∧ Below w.heap.size w w')
theorem RemadeE.made {cl : Nat → Nat → Int} {h wd : Nat} {p : List ByteArray} {R : List (List Int)} {w w' : World} {e : Ending} (hp : planG p = true) (hq : ∃ q, planV R = (q, true) ∧ Planned cl h wd q) (hr : RemadeE p R w w' e) : MadeE cl h wd w w' e := by
  obtain ⟨q, hv, hpl⟩ := hq
  obtain ⟨⟨A, c, V, hV, he, hc, hC⟩, hb⟩ := hr
  rw [if_pos hp, hv] at hV
  subst hV
  exact ⟨q, A, c, he, ⟨hpl, plan_small hpl.plan, hc, hC, hb⟩⟩
theorem planTurn_is (A : Option Addr) (cap : Nat) (p : List ByteArray) (hp : SmallP p) (hpl : planG p = true) (w : World) (hr0 : Kd.C Kd.string w A p.length p) (hc0 : p.length ≤ cap) :
    Calls Try.prog 47 #[.slice A p.length cap] w fun e w' => MadeE (fun r c => clP p (p.length - 1 - c) r) (wdP p) p.length w w' e :=
  (planTurn_any A cap p hp w hr0 hc0).mono fun e w' h => RemadeE.made hpl (turn_plan hpl) h
end Go.Proofs.Ytdhnjecbdclmaaa
end
