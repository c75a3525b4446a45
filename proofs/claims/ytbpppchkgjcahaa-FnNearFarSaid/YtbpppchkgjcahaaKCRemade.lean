/- Plain: the plan of a grid of numbers that is a floor; a floor turned, a floor flipped. -/
import Derived.Test.YtbpppchkgjcahaaKCSpecNearWM
namespace Go.Proofs.Ytbpppchkgjcahaa
open Go.RowKit Go.Shelf Go.Proofs.YtbpppchkgjcahaaW.PrintWords Go.Proofs.YtbpppchkgjcahaaW.PrintMore
set_option linter.unusedVariables false
set_option linter.unusedSimpArgs false
theorem mem_map_in (φ : Int → Int) (l : List Int) (x : Int) (h : ∀ y ∈ l, φ y = φ x → y = x) : φ x ∈ l.map φ ↔ x ∈ l := by
  rw [List.mem_map]
  constructor
  · rintro ⟨y, hy, e⟩; rw [← h y hy e]; exact hy
  · intro hx; exact ⟨x, hx, rfl⟩
theorem idxOf_map_in (φ : Int → Int) : ∀ (l : List Int) (x : Int), (∀ y ∈ l, φ y = φ x → y = x) → (l.map φ).idxOf (φ x) = l.idxOf x := by
  intro l
  induction l with
  | nil => intro x _; rfl
  | cons a t ih =>
    intro x h
    rw [List.map_cons, List.idxOf_cons, List.idxOf_cons, ih x (fun y hy => h y (List.mem_cons.2 (.inr hy)))]
    by_cases e : a = x
    · subst e; simp
    · have e2 : φ a ≠ φ x := fun e2 => e (h a (List.mem_cons.2 (.inl rfl)) e2)
      have b1 : (a == x) = false := by simpa using e
      have b2 : (φ a == φ x) = false := by simpa using e2
      rw [b1, b2]
theorem scan_map {w N : Nat} {f g : Nat → Int} (φ : Int → Int) (hg : ∀ n, n < N → g n = φ (f n)) (hi : ∀ m m', m < N → m' < N → φ (f m) = φ (f m') → f m = f m') : ∀ n, n ≤ N → scan w g n = ((scan w f n).1.map φ, (scan w f n).2) := by
  intro n
  induction n with
  | zero => intro _; rfl
  | succ n ih =>
    intro hn
    have ih := ih (by omega)
    have hin : ∀ y ∈ (scan w f n).1, φ y = φ (f n) → y = f n := fun y hy e => by
      obtain ⟨m, hm, rfl⟩ := (scan_mem _ _).1 hy
      exact hi m n (by omega) (by omega) e
    show stepX (scan w g n) (cellBox w n) (g n) = ((stepX (scan w f n) (cellBox w n) (f n)).1.map φ, (stepX (scan w f n) (cellBox w n) (f n)).2)
    rw [ih, hg n (by omega)]
    unfold stepX addX
    dsimp only
    rw [idxOf_map_in φ _ _ hin]
    by_cases e : f n ∈ (scan w f n).1
    · rw [if_pos e, if_pos ((mem_map_in φ _ _ hin).2 e)]
    · rw [if_neg e, if_neg (fun h => e ((mem_map_in φ _ _ hin).1 h)), List.map_append]; rfl
theorem num_map {w N : Nat} {f g : Nat → Int} (φ : Int → Int) (hg : ∀ n, n < N → g n = φ (f n)) (hi : ∀ m m', m < N → m' < N → φ (f m) = φ (f m') → f m = f m') (n : Nat) (hn : n < N) : numAt w g n = numAt w f n := by
  unfold numAt
  rw [scan_map φ hg hi n (by omega), hg n hn]
  refine idxOf_map_in φ _ _ fun y hy e => ?_
  obtain ⟨m, hm, rfl⟩ := (scan_mem _ _).1 hy
  exact hi m n (by omega) hn e
theorem nodup_few : ∀ (n : Nat) (l : List Int), l.Nodup → (∀ x ∈ l, (0 : Int) ≤ x ∧ x < n) → l.length ≤ n := by
  intro n
  induction n with
  | zero =>
    intro l _ h
    cases l with
    | nil => exact Nat.le_refl _
    | cons a t => have := h a (List.mem_cons.2 (.inl rfl)); omega
  | succ n ih =>
    intro l hl h
    have h1 := ih (l.erase (n : Int)) (hl.erase _) (fun x hx => by
      have hm := (List.Nodup.mem_erase_iff hl).1 hx
      have := h x hm.2
      have := hm.1
      omega)
    rw [List.length_erase] at h1
    split at h1 <;> omega
section
variable {h wd : Nat} {val : Nat → Nat → Int}
theorem gridV_len : (gridV h wd val).length = h := by unfold gridV; rw [List.length_map, List.length_range]
theorem gridV_row {i : Nat} (hi : i < h) : (gridV h wd val).getD i [] = (List.range wd).map fun c => val i c := by
  unfold gridV
  rw [List.getD_eq_getElem?_getD, List.getElem?_map, List.getElem?_range hi]; rfl
theorem gridV_wide (hh : 1 ≤ h) : ((gridV h wd val).getD 0 []).length = wd := by rw [gridV_row (by omega), List.length_map, List.length_range]
theorem gridV_cell {n : Nat} (hn : n < h * wd) : cellOf (gridV h wd val) wd n = val (n / wd) (n % wd) := by
  have hw : 0 < wd := by
    rcases Nat.eq_zero_or_pos wd with e | e
    · subst e; omega
    · exact e
  unfold cellOf
  rw [gridV_row (Nat.div_lt_of_lt_mul (by rw [Nat.mul_comm]; exact hn)), List.getD_eq_getElem?_getD, List.getElem?_map, List.getElem?_range (Nat.mod_lt _ hw)]; rfl
theorem gridV_shape (hh : 1 ≤ h ∧ h ≤ 6) (hw : 1 ≤ wd ∧ wd ≤ 6) : shapeB (gridV h wd val) = true := by
  unfold shapeB
  rw [gridV_wide hh.1, gridV_len]
  simp only [Bool.and_eq_true, decide_eq_true_eq, Bool.not_eq_true', List.any_eq_false, List.mem_range]
  refine ⟨⟨⟨⟨hh.1, hh.2⟩, hw.1⟩, hw.2⟩, fun r hr => ?_⟩
  rw [gridV_row hr, List.length_map, List.length_range]
  simp
theorem gridV_nums (hh : 1 ≤ h) : numsOf (gridV h wd val) = gridV h wd fun i j => ((numAt wd (cellOf (gridV h wd val) wd) (i * wd + j) : Nat) : Int) := by
  unfold numsOf
  rw [gridV_wide hh, gridV_len]; rfl
theorem gridV_scan (hh : 1 ≤ h) : scanOf (gridV h wd val) = scan wd (cellOf (gridV h wd val) wd) (h * wd) := by
  unfold scanOf
  rw [gridV_wide hh, gridV_len]
theorem gridV_ext {val' : Nat → Nat → Int} (e : ∀ i j, i < h → j < wd → val i j = val' i j) : gridV h wd val = gridV h wd val' := by
  unfold gridV
  refine List.map_congr_left fun i hi => List.map_congr_left fun j hj => e i j (List.mem_range.1 hi) (List.mem_range.1 hj)
theorem at_lt {i j : Nat} (hi : i < h) (hj : j < wd) : i * wd + j < h * wd := by
  have : (i + 1) * wd ≤ h * wd := Nat.mul_le_mul_right _ hi
  rw [Nat.succ_mul] at this; omega
end
theorem bytes_rowText (row : List Int) (h : ∀ k ∈ row, (0 : Int) ≤ k ∧ k ≤ 100) : bytesOf (rowText row) = row.map fun k => 97 + k := by
  unfold bytesOf rowText rowBytes
  rw [List.toList_toArray, List.map_map]
  exact List.map_congr_left fun k hk => letOf_val (h k hk)
theorem sumTo_cnt1 (P : Nat → Prop) [DecidablePred P] : ∀ n, sumTo (fun m => if P m then 1 else 0) n = cnt1 P n := by
  intro n
  induction n with
  | zero => rfl
  | succ n ih => unfold sumTo cnt1; rw [ih]
theorem cnt_rows (f : Nat → Int) (x : Int) (w : Nat) : ∀ h, cntX f x (h * w) = sumR (fun i => cnt1 (fun j => f (i * w + j) = x) w) h := by
  intro h
  induction h with
  | zero => simp [cntX, sumTo, sumR]
  | succ h ih =>
    rw [Nat.succ_mul]
    unfold cntX at ih ⊢
    rw [sumTo_add, ih]
    show _ = sumR _ h + cnt1 _ w
    rw [← sumTo_cnt1]
section
variable {cl : Nat → Nat → Int} {boxes : List Box} {h wd : Nat} (F : Flat cl boxes h wd) {f : Nat → Int} (hf : ∀ i j, i < h → j < wd → f (i * wd + j) = cl i j)
include F hf
theorem grid_box (k : Nat) (hk : k < boxes.length) : IsBox wd f (h * wd) (k : Int) boxes[k] := by
  obtain ⟨a, b, c, d, e, h1, h2, h3, h4, hc⟩ := F.box k hk
  rw [e]
  have hat : ∀ i j, a ≤ i → i < a + c → b ≤ j → j < b + d → i * wd + j < h * wd ∧ f (i * wd + j) = (k : Int) ∧ (i * wd + j) / wd = i ∧ (i * wd + j) % wd = j := fun i j q1 q2 q3 q4 =>
    ⟨at_lt (by omega) (by omega), by rw [hf i j (by omega) (by omega)]; exact (hc i j (by omega) (by omega)).2 ⟨⟨q1, q2⟩, q3, q4⟩, (div_row (by omega)).1, (div_row (by omega)).2⟩
  refine ⟨fun m hm hx => ?_, ?_, ?_, ?_, ?_⟩
  · have hw : 0 < wd := by omega
    have hi : m / wd < h := Nat.div_lt_of_lt_mul (by rw [Nat.mul_comm]; exact hm)
    have hj : m % wd < wd := Nat.mod_lt _ hw
    have hmm : m / wd * wd + m % wd = m := by rw [Nat.mul_comm]; exact Nat.div_add_mod _ _
    have := hf _ _ hi hj
    rw [hmm, hx] at this
    have := (hc _ _ hi hj).1 this.symm
    unfold natB
    dsimp only
    omega
  · obtain ⟨q1, q2, q3, q4⟩ := hat a b (by omega) (by omega) (by omega) (by omega)
    exact ⟨_, q1, q2, by rw [q3]; rfl⟩
  · obtain ⟨q1, q2, q3, q4⟩ := hat (a + c - 1) b (by omega) (by omega) (by omega) (by omega)
    exact ⟨_, q1, q2, by rw [q3]; unfold natB; dsimp only; omega⟩
  · obtain ⟨q1, q2, q3, q4⟩ := hat a b (by omega) (by omega) (by omega) (by omega)
    exact ⟨_, q1, q2, by rw [q4]; rfl⟩
  · obtain ⟨q1, q2, q3, q4⟩ := hat a (b + d - 1) (by omega) (by omega) (by omega) (by omega)
    exact ⟨_, q1, q2, by rw [q4]; unfold natB; dsimp only; omega⟩
theorem grid_val (m : Nat) (hm : m < h * wd) : ∃ k, k < boxes.length ∧ f m = (k : Int) := by
  have hw : 0 < wd := F.wide.1
  have hi : m / wd < h := Nat.div_lt_of_lt_mul (by rw [Nat.mul_comm]; exact hm)
  have hj : m % wd < wd := Nat.mod_lt _ hw
  have hmm : m / wd * wd + m % wd = m := by rw [Nat.mul_comm]; exact Nat.div_add_mod _ _
  obtain ⟨k, hk, e⟩ := F.num _ _ hi hj
  refine ⟨k, hk, ?_⟩
  have := hf _ _ hi hj
  rw [hmm] at this
  rw [this, e]
theorem grid_cnt (k : Nat) (hk : k < boxes.length) : (cntX f (k : Int) (h * wd) : Int) = areaB boxes[k] := by
  obtain ⟨a, b, c, d, e, h1, h2, h3, h4, hc⟩ := F.box k hk
  rw [← cells_room F (r := 0) (c := 0) (ph := h) (pw := wd) (by omega) (by omega) k hk (by rw [e, both_within]; omega), cnt_rows]
  congr 1
  refine sumR_congr h fun i hi => cnt1_congr wd fun j hj => ?_
  rw [hf i j hi hj, Nat.zero_add, Nat.zero_add]
theorem grid_full : ((scan wd f (h * wd)).2.map areaB).sum = ((h * wd : Nat) : Int) := by
  rw [area_all]
  intro k h1 h2
  have hb := scan_box (w := wd) (f := f) (h * wd) k h1 h2
  obtain ⟨m, hm, e⟩ := (scan_mem _ _).1 (List.getElem_mem h1)
  obtain ⟨r, hr, er⟩ := grid_val F hf m hm
  rw [← e, er] at hb ⊢
  rw [IsBox.unique hb (grid_box F hf r hr)]
  exact grid_cnt F hf r hr
theorem grid_few : (scan wd f (h * wd)).1.length ≤ 9 := by
  refine Nat.le_trans (nodup_few boxes.length _ (scan_nodup _) fun x hx => ?_) F.few
  obtain ⟨m, hm, e⟩ := (scan_mem _ _).1 hx
  obtain ⟨r, hr, er⟩ := grid_val F hf m hm
  omega
end
structure Planned (cl : Nat → Nat → Int) (h wd : Nat) (q : List ByteArray) : Prop where
  plan : planG q = true
  high : q.length = h
  wide : wdP q = wd
  same : ∀ i j i' j', i < h → j < wd → i' < h → j' < wd → (clP q i j = clP q i' j' ↔ cl i j = cl i' j')
theorem idx_inj {l : List Int} {x y : Int} (hx : x ∈ l) (hy : y ∈ l) (e : l.idxOf x = l.idxOf y) : x = y := by
  have h1 := List.getElem_idxOf (List.idxOf_lt_length_of_mem hx)
  have h2 := List.getElem_idxOf (List.idxOf_lt_length_of_mem hy)
  rw [← h1, ← h2]
  simp only [e]
theorem planned_of {cl : Nat → Nat → Int} {h wd : Nat} (hh : 1 ≤ h ∧ h ≤ 6) (hw6 : 1 ≤ wd ∧ wd ≤ 6) (hR2 : (scanOf (gridV h wd cl)).2.length ≤ 9) (hR3 : fullB (gridV h wd cl) = true) : ∃ q, planV (gridV h wd cl) = (q, true) ∧ Planned cl h wd q := by
  obtain ⟨f, hfe⟩ : ∃ f, cellOf (gridV h wd cl) wd = f := ⟨_, rfl⟩
  have hw : 0 < wd := hw6.1
  have hf : ∀ i j, i < h → j < wd → f (i * wd + j) = cl i j := fun i j hi hj => by
    rw [← hfe, gridV_cell (at_lt hi hj), (div_row hj).1, (div_row hj).2]
  have hfew : (scan wd f (h * wd)).2.length ≤ 9 := by rw [gridV_scan hh.1, hfe] at hR2; exact hR2
  have hfull : ((scan wd f (h * wd)).2.map areaB).sum = (h : Int) * (wd : Int) := by
    unfold fullB at hR3
    rw [gridV_scan hh.1, hfe, gridV_wide hh.1, gridV_len, decide_eq_true_eq] at hR3
    exact hR3
  have hR1 : shapeB (gridV h wd cl) = true := gridV_shape hh hw6
  have hN : numsOf (gridV h wd cl) = gridV h wd fun i j => ((numAt wd f (i * wd + j) : Nat) : Int) := by rw [gridV_nums hh.1, hfe]
  have hnl : ∀ n, n < h * wd → numAt wd f n < 9 := fun n hn => Nat.lt_of_lt_of_le (num_lt hn) (by rw [scan_len]; exact hfew)
  obtain ⟨nm, hnm⟩ : ∃ nm : Nat → Nat → Int, nm = fun i j => ((numAt wd f (i * wd + j) : Nat) : Int) := ⟨_, rfl⟩
  have hnmv : ∀ i j, i < h → j < wd → 0 ≤ nm i j ∧ nm i j < 9 := fun i j hi hj => by
    have := hnl _ (at_lt hi hj)
    rw [hnm]; dsimp only; omega
  rw [← hnm] at hN
  have hrow : ∀ row ∈ gridV h wd nm, ∀ k ∈ row, (0 : Int) ≤ k ∧ k < 9 := fun row hrow k hk => by
    obtain ⟨i, hi, rfl⟩ := List.mem_map.1 hrow
    obtain ⟨j, hj, rfl⟩ := List.mem_map.1 hk
    exact hnmv i j (List.mem_range.1 hi) (List.mem_range.1 hj)
  have hq : rowsOf ((gridV h wd nm).map rowText) = gridV h wd fun i j => 97 + nm i j := by
    unfold rowsOf
    rw [List.map_map]
    unfold gridV
    rw [List.map_map]
    refine List.map_congr_left fun i hi => ?_
    show bytesOf (rowText _) = _
    rw [bytes_rowText _ (fun k hk => by
      have := hrow _ (List.mem_map.2 ⟨i, hi, rfl⟩) k hk
      omega), List.map_map]
    rfl
  obtain ⟨g, hge⟩ : ∃ g, cellOf (gridV h wd fun i j => 97 + nm i j) wd = g := ⟨_, rfl⟩
  have hg : ∀ n, n < h * wd → g n = 97 + (((scan wd f (h * wd)).1.idxOf (f n) : Nat) : Int) := fun n hn => by
    have hmm : n / wd * wd + n % wd = n := by rw [Nat.mul_comm]; exact Nat.div_add_mod _ _
    rw [← hge, gridV_cell hn, hnm]
    dsimp only
    rw [hmm, num_stable hn]
  have hmem : ∀ n, n < h * wd → f n ∈ (scan wd f (h * wd)).1 := fun n hn => (scan_mem _ _).2 ⟨n, hn, rfl⟩
  have hinj : ∀ m m', m < h * wd → m' < h * wd → 97 + (((scan wd f (h * wd)).1.idxOf (f m) : Nat) : Int) = 97 + (((scan wd f (h * wd)).1.idxOf (f m') : Nat) : Int) → f m = f m' := fun m m' hm hm' e => idx_inj (hmem m hm) (hmem m' hm') (by omega)
  have hnum : ∀ n, n < h * wd → numAt wd g n = numAt wd f n := fun n hn => num_map (fun x => 97 + (((scan wd f (h * wd)).1.idxOf x : Nat) : Int)) hg hinj n hn
  have hscan : (scan wd g (h * wd)).2 = (scan wd f (h * wd)).2 := by rw [scan_map (fun x => 97 + (((scan wd f (h * wd)).1.idxOf x : Nat) : Int)) hg hinj _ (Nat.le_refl _)]
  have hw2 : wdP ((gridV h wd nm).map rowText) = wd := by unfold wdP; rw [hq, gridV_wide hh.1]
  have hcl : ∀ i j, i < h → j < wd → clP ((gridV h wd nm).map rowText) i j = nm i j := fun i j hi hj => by
    unfold clP fP
    rw [hw2, hq, hge, hnum _ (at_lt hi hj), hnm]
  refine ⟨(gridV h wd nm).map rowText, ?_, ?_, by rw [List.length_map, gridV_len], hw2, fun i j i' j' hi hj hi' hj' => ?_⟩
  · unfold planV
    rw [hR1, hR3, hN, decide_eq_true hR2]; rfl
  · unfold planG
    rw [hq]
    have a1 : lettersB ((gridV h wd nm).map rowText) = true := by
      unfold lettersB
      rw [List.all_eq_true]
      intro s hs
      obtain ⟨row, hr, rfl⟩ := List.mem_map.1 hs
      unfold letB
      rw [bytes_rowText _ (fun k hk => by have := hrow row hr k hk; omega), List.all_eq_true]
      intro x hx
      obtain ⟨k, hk, rfl⟩ := List.mem_map.1 hx
      have := hrow row hr k hk
      rw [Bool.and_eq_true, decide_eq_true_eq, decide_eq_true_eq]
      omega
    have a2 : (scanOf (gridV h wd fun i j => 97 + nm i j)).2.length ≤ 9 := by rw [gridV_scan hh.1, hge, hscan]; exact hfew
    have a3 : fullB (gridV h wd fun i j => 97 + nm i j) = true := by
      unfold fullB
      rw [gridV_scan hh.1, hge, gridV_wide hh.1, gridV_len, hscan, hfull]
      simp
    have a4 : numsOf (gridV h wd fun i j => 97 + nm i j) = gridV h wd nm := by
      rw [gridV_nums hh.1, hge]
      refine gridV_ext fun i j hi hj => ?_
      rw [hnum _ (at_lt hi hj), hnm]
    rw [a1, gridV_shape hh hw6, a3, a4, decide_eq_true a2]
    simp
  · rw [hcl i j hi hj, hcl i' j' hi' hj', hnm]
    dsimp only
    rw [num_stable (at_lt hi hj), num_stable (at_lt hi' hj'), hf i j hi hj, hf i' j' hi' hj']
    constructor
    · intro e
      have m1 := hmem _ (at_lt hi hj)
      have m2 := hmem _ (at_lt hi' hj')
      rw [hf i j hi hj] at m1
      rw [hf i' j' hi' hj'] at m2
      exact idx_inj m1 m2 (by omega)
    · intro e; rw [e]
theorem planned {cl : Nat → Nat → Int} {boxes : List Box} {h wd : Nat} (F : Flat cl boxes h wd) : ∃ q, planV (gridV h wd cl) = (q, true) ∧ Planned cl h wd q := by
  have hf : ∀ i j, i < h → j < wd → cellOf (gridV h wd cl) wd (i * wd + j) = cl i j := fun i j hi hj => by
    rw [gridV_cell (at_lt hi hj), (div_row hj).1, (div_row hj).2]
  refine planned_of F.high F.wide ?_ ?_
  · rw [gridV_scan F.high.1, ← scan_len]; exact grid_few F hf
  · unfold fullB
    rw [gridV_scan F.high.1, gridV_wide F.high.1, gridV_len, grid_full F hf]
    simp
theorem flat_flip {cl : Nat → Nat → Int} {boxes : List Box} {h wd : Nat} (F : Flat cl boxes h wd) : Flat (fun r c => cl r (wd - 1 - c)) (boxes.map fun b => (b.1, (wd : Int) - b.2.1 - b.2.2.2, b.2.2.1, b.2.2.2)) h wd := by
  have hh := F.wide
  refine ⟨F.high, F.wide, by rw [List.length_map]; exact F.few, fun i j hi hj => ?_, fun k hk => ?_⟩
  · rw [List.length_map]; exact F.num _ _ hi (by omega)
  · rw [List.length_map] at hk
    obtain ⟨a, b, c, d, e, h1, h2, h3, h4, hc⟩ := F.box k hk
    refine ⟨a, wd - b - d, c, d, ?_, h1, h2, h3, by omega, fun i j hi hj => ?_⟩
    · rw [List.getElem_map, e]
      unfold natB
      dsimp only
      rw [show (wd : Int) - b - d = ((wd - b - d : Nat) : Int) by omega]
    · rw [hc i (wd - 1 - j) hi (by omega)]; omega
theorem flip_plan {p : List ByteArray} (hp : planG p = true) : ∃ q, planV (flipR p) = (q, true) ∧ Planned (fun r c => clP p r (wdP p - 1 - c)) p.length (wdP p) q := planned (flat_flip (planFlat hp))
end Go.Proofs.Ytbpppchkgjcahaa
