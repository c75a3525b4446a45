/- The program's touching: for each two rooms, along how many cells they lie beside each other. -/
import Derived.Test.YtbpppchkgjcahaaKFIntsW
import Derived.Test.YtbpppchkgjcahaaKFWalls
import Derived.Test.YtbpppchkgjcahaaKFKindPM
namespace Go.Proofs.Ytbpppchkgjcahaa
open Go.RowKit Go.Shelf Go.Proofs.YtbpppchkgjcahaaW.PrintWords Go.Proofs.YtbpppchkgjcahaaW.PrintMore
set_option linter.unusedVariables false
set_option linter.unusedSimpArgs false
theorem zero_any (r c : Nat) (w : World) : Calls Try.prog 135 #[.int .i64 r, .int .i64 c] w fun e w' => e = .returned (.int .i64 0) ∧ Below w.heap.size w w' := by
  go_enter Try.func135, Try.ntmps135
  go_wp2
  go_ret
  exact ⟨rfl, Below.refl _ _⟩
theorem enter_z (args : Array Value) (W : World) : (callFunc 135 args).run Try.prog W = .ok (.enter 135 args) W := by kernel_rfl
theorem sides_two {cl : Nat → Nat → Int} {h wd n : Nat} (hnum : ∀ i j, i < h → j < wd → ∃ q, q < n ∧ cl i j = (q : Int)) {x : WallT} (hx : x ∈ wallsL cl h wd) {m : Nat} (hm : m < x.2.2.2) :
    ∃ a b : Nat, a < n ∧ b < n ∧ a ≠ b ∧ sidesL cl x.1 x.2.1 (x.2.2.1 + m) = ((a : Int), (b : Int)) := by
  obtain ⟨k1, k2, k3, k4⟩ := wallsL_in hx
  obtain ⟨lv, line, fr, long⟩ := x
  dsimp only at k1 k2 k3 k4 hm ⊢
  have hd := k4 (fr + m) (by omega) (by omega)
  unfold dfL at hd
  rw [bne_iff_ne] at hd
  cases lv with
  | true =>
    simp only [if_true] at k1 k3
    unfold sidesL at hd ⊢
    simp only [if_true] at hd ⊢
    obtain ⟨q1, hq1, e1⟩ := hnum (line - 1) (fr + m) (by omega) (by omega)
    obtain ⟨q2, hq2, e2⟩ := hnum line (fr + m) (by omega) (by omega)
    rw [e1, e2] at hd ⊢
    exact ⟨q1, q2, hq1, hq2, fun e => hd (by rw [e]), rfl⟩
  | false =>
    simp only [Bool.false_eq_true, if_false] at k1 k3
    unfold sidesL at hd ⊢
    simp only [Bool.false_eq_true, if_false] at hd ⊢
    obtain ⟨q1, hq1, e1⟩ := hnum (fr + m) (line - 1) (by omega) (by omega)
    obtain ⟨q2, hq2, e2⟩ := hnum (fr + m) line (by omega) (by omega)
    rw [e1, e2] at hd ⊢
    exact ⟨q1, q2, hq1, hq2, fun e => hd (by rw [e]), rfl⟩
structure TouI (w w1 W : World) (g n : Nat) (rb : Nat → Nat) (v : Value) (L : List WallT) (U : List (Nat × Nat)) (T : Nat → Nat → Int) : Prop where
  tab : IntsW W g n rb T
  tells : TouchI T U
  below : Below w.heap.size w W
  size : w1.heap.size ≤ W.heap.size
  walls : WallsW W w1.heap.size v L
theorem TouI.keep {w w1 W W' : World} {g n : Nat} {rb : Nat → Nat} {v : Value} {L : List WallT} {U : List (Nat × Nat)} {T : Nat → Nat → Int} (h : TouI w w1 W g n rb v L U T) (hb : Below W.heap.size W W') : TouI w w1 W' g n rb v L U T :=
  ⟨h.tab.below hb, h.tells, h.below.trans (hb.mono h.below.size), Nat.le_trans h.size hb.size, h.walls.below hb⟩
theorem TouI.unit {w w1 W : World} {g n : Nat} {rb : Nat → Nat} {v : Value} {L : List WallT} {U : List (Nat × Nat)} {T : Nat → Nat → Int} (h : TouI w w1 W g n rb v L U T) (hr : ∀ i, i < n → w.heap.size ≤ rb i ∧ rb i < w1.heap.size) {a b : Nat} (ha : a < n) (hb : b < n) (hab : a ≠ b) :
    ∃ T', TouI w w1 ((W.setCell ⟨rb a, b, none⟩ (.int .i64 (T a b + 1))).setCell ⟨rb b, a, none⟩ (.int .i64 (T b a + 1))) g n rb v L (U ++ [(a, b)]) T' := by
  refine ⟨setT (setT T a b (T a b + 1)) b a (T b a + 1), (h.tab.set ha hb _).set hb ha _, ?_, ?_, ?_, ?_⟩
  · have e : setT (setT T a b (T a b + 1)) b a (T b a + 1) = fun i j => if i = b ∧ j = a then (if b = a ∧ a = b then T a b + 1 else T b a) + 1 else if i = a ∧ j = b then T a b + 1 else T i j := by
      funext i j
      unfold setT
      rw [if_neg (show ¬ (b = a ∧ a = b) from fun hh => hab hh.2)]
    rw [e]
    exact h.tells.more a b
  · exact (h.below.setCell (p := ⟨rb a, b, none⟩) (hr a ha).1 _).setCell (p := ⟨rb b, a, none⟩) (hr b hb).1 _
  · simpa using h.size
  · refine h.walls.move fun j hj => ?_
    obtain hlt := (h.walls.lt j hj).1
    have h1 := (hr a ha).2
    have h2 := (hr b hb).2
    rw [Below.heap_setCell _ _ _ _ (by show j ≠ rb b; omega), Below.heap_setCell _ _ _ _ (by show j ≠ rb a; omega)]
theorem units_len {cl : Nat → Nat → Int} {L : List WallT} (hL : ∀ x ∈ L, x.2.2.2 ≤ 6) (k : Nat) (hk : k ≤ L.length) : (unitsTo cl L k).length ≤ 6 * k := by
  induction k with
  | zero => exact Nat.zero_le _
  | succ k ih =>
    rw [unitsTo_succ cl L (by omega), List.length_append, unitsW_len]
    have := ih (by omega)
    have := hL _ (List.getElem_mem (show k < L.length by omega))
    omega
def TouchW (w w' : World) (n : Nat) (nb : Nat → Nat → Bool) (e : Ending) : Prop := ∃ g rb T, e = .returned (.slice (some ⟨g, 0, none⟩) n n) ∧ IntsW w' g n rb T ∧ (∀ a b, decide (0 < T a b) = nb a b) ∧ Below w.heap.size w w'
set_option maxRecDepth 100000 in
set_option maxHeartbeats 16000000 in
theorem touching_any (fb h wd : Nat) (cl : Nat → Nat → Int) (boxes : List Box) (hh : 1 ≤ h ∧ h ≤ 6) (hw : 1 ≤ wd ∧ wd ≤ 6) (hn : 1 ≤ boxes.length ∧ boxes.length ≤ 9) (hnum : ∀ i j, i < h → j < wd → ∃ q, q < boxes.length ∧ cl i j = (q : Int)) (w : World) (hf : FloorR w fb h wd cl boxes) :
    Calls Try.prog 81 #[.pointer (some ⟨fb, 0, none⟩)] w fun e w' => TouchW w w' boxes.length (nbB cl h wd) e := by
  have HF := Aside0.mk hf
  have HNUM := Aside0.mk hnum
  obtain ⟨g0, rb0, RA, rc, h1, h2, h3, h4, h5, h6⟩ := hf
  clear h2 h3 h5 h6 hnum
  obtain ⟨n, hnn⟩ : ∃ n, boxes.length = n := ⟨_, rfl⟩
  rw [hnn] at hn h4 HNUM ⊢
  have HBL : Aside0 (∀ W, Below w.heap.size w W → Calls Try.prog 134 #[.int .i64 n, .int .i64 n, .func (.func 135) #[] #[]] W fun e w' => ∃ g rb, e = .returned (.slice (some ⟨g, 0, none⟩) n n) ∧ IntsW w' g n rb (fun _ _ => 0) ∧ W.heap.size ≤ g ∧ (∀ i, i < n → W.heap.size ≤ rb i) ∧ Below W.heap.size W w') := ⟨fun W hW => blank_zero n ⟨hn.1, by omega⟩ 135 #[] W enter_z (fun r c W' _ _ hB => zero_any r c W')⟩
  have HWL : Aside0 (∀ W, Below w.heap.size w W → Calls Try.prog 90 #[.pointer (some ⟨fb, 0, none⟩)] W fun e w' => (∃ A c, e = .returned (.slice A (wallsL cl h wd).length c) ∧ WallsW w' W.heap.size (.slice A (wallsL cl h wd).length c) (wallsL cl h wd)) ∧ Below W.heap.size W w') := ⟨fun W hW => walls_any fb h wd cl boxes hh hw W (HF.out.below hW)⟩
  have HSD := Aside0.mk (fun W (hW : Below w.heap.size w W) (level : Bool) (line at_ : Nat) (hl : 1 ≤ line) (hin : if level then line < h ∧ at_ < wd else line < wd ∧ at_ < h) => sides_any fb h wd cl boxes W (HF.out.below hW) (by omega) (by omega) level line at_ hl hin)
  have HWIN : Aside0 (∀ x ∈ wallsL cl h wd, (1 ≤ x.2.1 ∧ x.2.1 < if x.1 then h else wd) ∧ 1 ≤ x.2.2.2 ∧ (x.2.2.1 + x.2.2.2 ≤ if x.1 then wd else h)) := ⟨fun x hx => by obtain ⟨a, b, c, d⟩ := wallsL_in hx; exact ⟨a, b, c⟩⟩
  have HTN := Aside0.mk (fun T (hT : TouchI T ((wallsL cl h wd).flatMap (unitsW cl))) a b => touch_near (h := h) (wd := wd) HNUM.out hT a b)
  have HLL := wallsL_len cl hh.2 hw.2
  obtain ⟨L, hL⟩ : ∃ L, wallsL cl h wd = L := ⟨_, rfl⟩
  have HLE := Aside0.mk hL
  have HW6 : Aside0 (∀ x ∈ L, x.2.2.2 ≤ 6) := ⟨fun x hx => by
    have h3 := (HWIN.out x (by rw [hL]; exact hx)).2.2
    split at h3 <;> omega⟩
  rw [hL] at HWL HWIN HTN HLL
  have HH := Aside0.mk (And.intro hh hw)
  clear hL hh hw hnn
  go_enter Try.func81, Try.ntmps81
  go_wp2_with fail
  go_region_held3 (fun w' => w'.cell? ⟨fb, 1, none⟩ = some (.slice RA n rc)) (first
    | exact h4
    | exact hc4
    | (go_simp)) ((go_at_call 134; refine Calls.mono (HBL.out _ (by repeat (first | exact Below.refl _ _ | apply pw_below_drewN))) ?_; rintro e w1 ⟨g, rb, rfl, g1, g2, g3, g4⟩; have hc4 : w1.cell? ⟨fb, 1, none⟩ = some (.slice RA n rc) := (g4.cell (p := ⟨fb, 1, none⟩) (by simpa using h1)).trans h4; have HG : Aside0 (IntsW w1 g n rb (fun _ _ => 0) ∧ w.heap.size ≤ g ∧ (∀ i, i < n → w.heap.size ≤ rb i) ∧ Below w.heap.size w w1) := ⟨⟨g1, by simpa using g2, by simpa using g3, Below.trans (by repeat (first | exact Below.refl _ _ | apply pw_below_drewN)) (g4.mono (by simp))⟩⟩; clear g1 g2 g3 g4))
  all_goals
    clear h1 h4 HBL hc4
    go_wp2_with fail
    have HRB : Aside0 (∀ i, i < n → w.heap.size ≤ rb i ∧ rb i < w1.heap.size) := ⟨fun i hi => ⟨HG.out.2.2.1 i hi, (Array.getElem?_eq_some_iff.1 (HG.out.1.row i hi)).1⟩⟩
    refine (HWL.out _ (by repeat (first | exact HG.out.2.2.2 | apply pw_below_drewN))).mono ?_
    rintro e w2 ⟨⟨A2, c2, rfl, hW2⟩, hb2⟩
    obtain ⟨nL, hnL⟩ : ∃ n, L.length = n := ⟨_, rfl⟩
    have HN := Aside0.mk hnL
    have h0 : TouI w w1 w2 g n rb (.slice A2 nL c2) L (unitsTo cl L 0) (fun _ _ => 0) := ⟨HG.out.1.below (hb2.mono (Nat.le_refl _)), TouchI.nil, HG.out.2.2.2.trans (hb2.mono HG.out.2.2.2.size), hb2.size, by rw [← hnL]; exact hW2⟩
    have H0 := Aside0.mk h0
    rw [hnL] at HLL ⊢
    clear hb2 hW2 h0 hnL HG
    go_wp2
    go_loopw [23] (fun i wr => ∃ (k : Nat), i = .int .i64 k ∧ k ≤ nL ∧ Aside0 (∃ T, TouI w w1 wr g n rb (.slice A2 nL c2) L (unitsTo cl L k) T)) (fun i _ => nL - (intOf i).toNat)
    case atStart => exact ⟨0, rfl, Nat.zero_le _, ⟨_, H0.out⟩⟩
    case round =>
      obtain ⟨k, rfl, hk, HD⟩ := hrel
      obtain ⟨wo, rfl⟩ : ∃ wo : World, wo = wr := ⟨_, rfl⟩
      by_cases hlt : (k : Int) < (nL : Int)
      · have hkl : k < L.length := by rw [HN.out]; omega
        obtain ⟨T0, hT0⟩ := HD.out
        obtain ⟨g9, c9, hA, hc9, hg1, hg2, ⟨cs9, hcs9⟩, hcell⟩ := hT0.walls.form (by rw [HN.out]; omega)
        injection hA with hA hA2 hA3
        subst hA hA3
        obtain ⟨f0, f1, f2, f3⟩ := hcell k hkl
        have HS1 := Aside0.mk (unitsTo_succ cl L hkl)
        have hin := HWIN.out _ (List.getElem_mem hkl)
        have HSD2 : Aside0 (∀ m, m < L[k].2.2.2 → ∃ a b : Nat, a < n ∧ b < n ∧ a ≠ b ∧ sidesL cl L[k].1 L[k].2.1 (L[k].2.2.1 + m) = ((a : Int), (b : Int))) := ⟨fun m hm => sides_two HNUM.out (by rw [HLE.out]; exact List.getElem_mem hkl) hm⟩
        have HUG : Aside0 (∀ m, m < L[k].2.2.2 → (unitsW cl L[k]).take (m + 1) = (unitsW cl L[k]).take m ++ [((sidesL cl L[k].1 L[k].2.1 (L[k].2.2.1 + m)).1.toNat, (sidesL cl L[k].1 L[k].2.1 (L[k].2.2.1 + m)).2.toNat)]) := ⟨fun m hm => unitsW_get cl _ hm⟩
        have HUL := Aside0.mk (units_len (cl := cl) HW6.out k (by omega))
        have hlen := unitsW_len cl L[k]
        obtain ⟨U, hU⟩ : ∃ U, unitsW cl L[k] = U := ⟨_, rfl⟩
        obtain ⟨⟨lv, y1, y2, y3⟩, hx⟩ : ∃ x, L[k] = x := ⟨_, rfl⟩
        rw [hU] at HS1 HUG hlen
        rw [hx] at f0 f1 f2 f3 hin HSD2 HUG hlen
        dsimp only at f0 f1 f2 f3 hin HSD2 HUG hlen
        have HIN := Aside0.mk hin
        have hy : y2 ≤ 6 ∧ y3 ≤ 6 := by
          have h1 := HH.out.1.2
          have h2 := HH.out.2.2
          have h3 := hin.2.2
          split at h3 <;> omega
        have n9 : (nL : Int) ≤ (c2 : Int) := by rw [HN.out] at hc9; omega
        have hC4 := heap_alloc_new wo (.cells #[.bool lv, .int .i64 (y1 : Int), .int .i64 (y2 : Int), .int .i64 (y3 : Int)] 102)
        have HT1 : Aside0 (TouI w w1 (wo.alloc (.cells #[.bool lv, .int .i64 (y1 : Int), .int .i64 (y2 : Int), .int .i64 (y3 : Int)] 102)) g n rb (.slice (some ⟨g9, 0, none⟩) nL c2) L (unitsTo cl L k ++ U.take 0) T0) := ⟨by rw [List.take_zero, List.append_nil]; exact hT0.keep ((Below.refl _ _).alloc (Nat.le_refl _) _)⟩
        have HWS : Aside0 (w1.heap.size ≤ wo.heap.size) := ⟨hT0.size⟩
        have HC4 := Aside0.mk hC4
        have HLN := Aside0.mk hlen
        clear hcs9 hcell hx hU hg2 hg1 hA2 hc9 hkl hC4 hT0 hin hlen
        go_wp2_with fail
        go_loopw [6] (fun i wr => ∃ (j : Nat), i = .int .i64 ((y2 + j : Nat) : Int) ∧ j ≤ y3 ∧ Aside0 (wr.heap[wo.heap.size]? = some (.cells #[.bool lv, .int .i64 (y1 : Int), .int .i64 (y2 : Int), .int .i64 (y3 : Int)] 102 (0, 0)) ∧ ∃ T, TouI w w1 wr g n rb (.slice (some ⟨g9, 0, none⟩) nL c2) L (unitsTo cl L k ++ U.take j) T)) (fun i _ => y2 + y3 - (intOf i).toNat)
        case atStart => exact ⟨0, rfl, Nat.zero_le _, ⟨HC4.out, _, HT1.out⟩⟩
        case round =>
          obtain ⟨j, rfl, hj, HE⟩ := hrel
          obtain ⟨hblk, T, hT⟩ := HE.out
          obtain ⟨wi, rfl⟩ : ∃ wi : World, wi = wr := ⟨_, rfl⟩
          have q0 := Lib.cell_of_heap hblk 0
          have q1 := Lib.cell_of_heap hblk 1
          have q2 := Lib.cell_of_heap hblk 2
          have q3 := Lib.cell_of_heap hblk 3
          simp at q0 q1 q2 q3
          have v1 : IntKind.i64.wrap ((y2 : Int) + (y3 : Int)) = (y2 : Int) + (y3 : Int) := by rw [IntKind.wrap_i64]; omega
          by_cases hlt2 : ((y2 + j : Nat) : Int) < (y2 : Int) + (y3 : Int)
          · have hj3 : j < y3 := by omega
            obtain ⟨a, b, ha, hb, hab, hsd⟩ := HSD2.out j hj3
            have hug := HUG.out j hj3
            rw [hsd] at hug
            rw [Int.toNat_natCast, Int.toNat_natCast] at hug
            have HUJ := Aside0.mk hug
            have HSC : Aside0 (∀ W, Below w.heap.size w W → Calls Try.prog 136 #[.pointer (some ⟨fb, 0, none⟩), .bool lv, .int .i64 (y1 : Int), .int .i64 ((y2 + j : Nat) : Int)] W fun e w' => e = .returned (.tuple #[.int .i64 (a : Int), .int .i64 (b : Int)]) ∧ Below W.heap.size W w') := ⟨fun W hW => by
              have := HSD.out W hW lv y1 (y2 + j) HIN.out.1.1 (by have h1 := HIN.out.1.2; have h2 := HIN.out.2.2; cases lv <;> simp at h1 h2 ⊢ <;> omega)
              rw [hsd] at this
              exact this⟩
            have HT := Aside0.mk hT
            have HBK := Aside0.mk hblk
            have HAB := Aside0.mk (And.intro ha (And.intro hb hab))
            clear hsd hug hT hblk hj3 HE
            go_wp2_with fail
            refine (HSC.out _ HT.out.below).mono ?_
            rintro e w5 ⟨rfl, hb5⟩
            have hT5 := HT.out.keep hb5
            obtain ⟨t1, t2⟩ := hT5.tab.at ha hb
            obtain ⟨t3, t4⟩ := hT5.tab.at hb ha
            have t5 := hT5.tab.cell ha
            have t6 := hT5.tab.cell hb
            have e1 := hT5.tells a b
            have e2 := hT5.tells b a
            have ul : (unitsTo cl L k ++ U.take j).length ≤ 500 := by
              rw [List.length_append, List.length_take]
              have := HUL.out
              have := HLN.out
              omega
            have b1 : 0 ≤ T a b ∧ T a b ≤ 1000 := ⟨e1.1, by have := e1.2.1; omega⟩
            have b2 : 0 ≤ T b a ∧ T b a ≤ 1000 := ⟨e2.1, by have := e2.1; have := e2.2.1; omega⟩
            have u1 : rb a ≠ g := hT5.tab.ne a ha
            have u2 : rb b ≠ g := hT5.tab.ne b hb
            have u3 : rb b ≠ rb a := fun e => hab (hT5.tab.inj a b ha hb e.symm)
            have HT5 := Aside0.mk hT5
            have HBK5 : Aside0 (w5.heap[wo.heap.size]? = some (.cells #[.bool lv, .int .i64 (y1 : Int), .int .i64 (y2 : Int), .int .i64 (y3 : Int)] 102 (0, 0))) := ⟨(hb5.block _ (Array.getElem?_eq_some_iff.1 HBK.out).1).trans HBK.out⟩
            obtain ⟨T', hT'⟩ := hT5.unit HRB.out ha hb hab
            have HT' := Aside0.mk hT'
            have a0 : (0 : Int) ≤ (a : Int) := by omega
            have a1 : (a : Int) < (n : Int) := by omega
            have b0 : (0 : Int) ≤ (b : Int) := by omega
            have b1' : (b : Int) < (n : Int) := by omega
            clear hT5 hT' hb5 e1 e2 ul ha hb hab q0 q1 q2 q3
            go_wp2_with fail
            have hrl := HRB.out a HAB.out.1
            have hrl2 := HRB.out b HAB.out.2.1
            go_roundw
            case rel =>
              refine ⟨j + 1, by go_num, by omega, ⟨?_, T', ?_⟩⟩
              · rw [Below.heap_setCell _ _ _ _ (by show wo.heap.size ≠ rb b; have := HWS.out; omega), Below.heap_setCell _ _ _ _ (by show wo.heap.size ≠ rb a; have := HWS.out; omega)]
                exact HBK5.out
              · rw [HUJ.out, ← List.append_assoc]
                exact HT'.out
            case measure => simp [intOf]; omega
          · have hj3 : j = y3 := by omega
            have HTN2 : Aside0 (TouI w w1 wi g n rb (.slice (some ⟨g9, 0, none⟩) nL c2) L (unitsTo cl L (k + 1)) T) := ⟨by
              rw [HS1.out]
              have := hT
              rw [hj3, List.take_of_length_le (by rw [HLN.out]; exact Nat.le_refl _)] at this
              exact this⟩
            clear hT hblk HE hj3
            go_wp2_with fail
            go_roundw
            case rel => exact ⟨k + 1, by go_num, by omega, ⟨T, HTN2.out⟩⟩
            case measure => simp [intOf]; omega
      · have hkn : k = nL := by omega
        obtain ⟨T, hT⟩ := HD.out
        have HR : Aside0 (TouchW w wo n (nbB cl h wd) (.returned (.slice (some ⟨g, 0, none⟩) n n))) := ⟨⟨g, rb, T, rfl, hT.tab, HTN.out T (by
          have := hT.tells
          rw [hkn, ← HN.out, unitsTo_all] at this
          exact this), hT.below⟩⟩
        clear hT hkn
        go_wp2_with fail
        go_ret
        exact HR.out
end Go.Proofs.Ytbpppchkgjcahaa
