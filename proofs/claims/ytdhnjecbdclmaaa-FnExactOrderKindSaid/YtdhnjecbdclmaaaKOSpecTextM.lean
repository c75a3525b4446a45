/- Texts of this claim's, joined by a program: OSpecText, OPlanFlat, OWallMany. -/
import Derived.Test.YtdhnjecbdclmaaaKOFourDM
import Derived.Test.YtdhnjecbdclmaaaKOWalls
section
namespace Go.Proofs.Ytdhnjecbdclmaaa
open Go.RowKit Go.Shelf Go.Proofs.YtdhnjecbdclmaaaW.PrintWords Go.Proofs.YtdhnjecbdclmaaaW.PrintMore L3
set_option linter.unusedVariables false
end Go.Proofs.Ytdhnjecbdclmaaa
end
section
namespace Go.Proofs.Ytdhnjecbdclmaaa
open Go.RowKit Go.Shelf Go.Proofs.YtdhnjecbdclmaaaW.PrintWords Go.Proofs.YtdhnjecbdclmaaaW.PrintMore
set_option linter.unusedVariables false
def wdP (p : List ByteArray) : Nat := ((rowsOf p).getD 0 []).length
def fP (p : List ByteArray) : Nat → Int := cellOf (rowsOf p) (wdP p)
def clP (p : List ByteArray) (i j : Nat) : Int := ((numAt (wdP p) (fP p) (i * wdP p + j) : Nat) : Int)
def boxesP (p : List ByteArray) : List Box := (scanOf (rowsOf p)).2
theorem boxesP_scan (p : List ByteArray) : boxesP p = (scan (wdP p) (fP p) (p.length * wdP p)).2 := by
  unfold boxesP scanOf wdP fP
  have hlen : (rowsOf p).length = p.length := by unfold rowsOf; rw [List.length_map]
  rw [hlen]; rfl
theorem cnt_put (f : Nat → Int) (x : Int) (m : Nat) (hm : f m ≠ x) : ∀ n, cntX (fun i => if i = m then x else f i) x n = cntX f x n + if m < n then 1 else 0 := by
  intro n
  induction n with
  | zero => simp [cntX, sumTo]
  | succ n ih =>
    unfold cntX at ih ⊢
    unfold sumTo
    rw [ih]
    by_cases e : n = m
    · subst e
      simp only [if_true, if_neg hm, if_neg (Nat.lt_irrefl n), if_pos (Nat.lt_succ_self n)]
    · simp only [if_neg e]
      have e1 : (if m < n + 1 then 1 else 0) = (if m < n then 1 else (0 : Nat)) := by
        by_cases h2 : m < n
        · rw [if_pos h2, if_pos (by omega)]
        · rw [if_neg h2, if_neg (by omega)]
      rw [e1]; omega
theorem box_full {w h : Nat} {f : Nat → Int} {x : Int} {b : Box} (hb : IsBox w f (h * w) x b) (ha : (cntX f x (h * w) : Int) = areaB b) {i j : Nat} (hi : i < h) (hj : j < w) (h1 : b.1 ≤ (i : Int)) (h2 : (i : Int) < b.1 + b.2.2.1) (h3 : b.2.1 ≤ (j : Int)) (h4 : (j : Int) < b.2.1 + b.2.2.2) : f (i * w + j) = x := by
  apply Classical.byContradiction
  intro hne
  have hlt : i * w + j < h * w := by
    have : (i + 1) * w ≤ h * w := Nat.mul_le_mul_right _ hi
    rw [Nat.succ_mul] at this; omega
  have hw : ∀ m, f m = x → (fun q => if q = i * w + j then x else f q) m = x := fun m hm => by
    show (if m = i * w + j then x else f m) = x
    split
    · rfl
    · exact hm
  have hb2 : IsBox w (fun q => if q = i * w + j then x else f q) (h * w) x b := by
    refine ⟨fun m hm he => ?_, ?_, ?_, ?_, ?_⟩
    · by_cases e : m = i * w + j
      · subst e
        rw [(div_row hj).1, (div_row hj).2]
        exact ⟨h1, h2, h3, h4⟩
      · have he' : (if m = i * w + j then x else f m) = x := he
        rw [if_neg e] at he'
        exact hb.all m hm he'
    · obtain ⟨m, a, b', c⟩ := hb.top; exact ⟨m, a, hw m b', c⟩
    · obtain ⟨m, a, b', c⟩ := hb.low; exact ⟨m, a, hw m b', c⟩
    · obtain ⟨m, a, b', c⟩ := hb.left; exact ⟨m, a, hw m b', c⟩
    · obtain ⟨m, a, b', c⟩ := hb.right; exact ⟨m, a, hw m b', c⟩
  have hle := cnt_le_area hb2
  rw [cnt_put f x _ hne, if_pos hlt] at hle
  omega
structure PlanFacts (p : List ByteArray) : Prop where
  let_ : lettersB p = true
  shape : shapeB (rowsOf p) = true
  few : (boxesP p).length ≤ 9
  full : fullB (rowsOf p) = true
  named : (numsOf (rowsOf p)).map rowText = p
theorem planFacts {p : List ByteArray} (h : planG p = true) : PlanFacts p := by
  unfold planG at h
  simp only [Bool.and_eq_true, decide_eq_true_eq] at h
  exact ⟨h.1, h.2.1.1, h.2.1.2, h.2.2.1, h.2.2.2⟩
theorem planFlat {p : List ByteArray} (h : planG p = true) : Flat (clP p) (boxesP p) p.length (wdP p) := by
  have F := planFacts h
  obtain ⟨hT, h1, h3⟩ := textGrid_of F.let_ F.shape
  have hN := named_of F.let_ F.shape F.named
  have hlen : (rowsOf p).length = p.length := by unfold rowsOf; rw [List.length_map]
  have hh := hT.high
  have hw := hT.wide
  change wdP p ≤ 6 at hw
  change 1 ≤ wdP p at h3
  change Named (wdP p) (fP p) (p.length * wdP p) at hN
  have hsl := scan_len (w := wdP p) (f := fP p) (p.length * wdP p)
  have hbl : (boxesP p).length = (scan (wdP p) (fP p) (p.length * wdP p)).1.length := by rw [boxesP_scan, hsl]
  have hat : ∀ i j, i < p.length → j < wdP p → i * wdP p + j < p.length * wdP p := fun i j hi hj => by
    have : (i + 1) * wdP p ≤ p.length * wdP p := Nat.mul_le_mul_right _ hi
    rw [Nat.succ_mul] at this; omega
  refine ⟨⟨h1, hh⟩, ⟨h3, hw⟩, F.few, fun i j hi hj => ⟨_, ?_, rfl⟩, fun k hk => ?_⟩
  · rw [hbl]; exact num_lt (hat i j hi hj)
  · have hk1 : k < (scan (wdP p) (fP p) (p.length * wdP p)).1.length := by rw [← hbl]; exact hk
    have hk2 : k < (scan (wdP p) (fP p) (p.length * wdP p)).2.length := by rw [← hsl]; exact hk1
    have hbox := scan_box (w := wdP p) (f := fP p) (p.length * wdP p) k hk1 hk2
    rw [named_ord hN k hk1] at hbox
    have hfu := F.full
    unfold fullB scanOf at hfu
    rw [hlen, decide_eq_true_eq] at hfu
    have har := (area_all (wdP p) p.length (fP p)).1 (by push_cast; exact hfu) k hk1 hk2
    rw [named_ord hN k hk1] at har
    have he : (boxesP p)[k] = (scan (wdP p) (fP p) (p.length * wdP p)).2[k] := by simp only [boxesP_scan]
    rw [he]
    obtain ⟨⟨b1, b2, b3, b4⟩, hb⟩ : ∃ b, (scan (wdP p) (fP p) (p.length * wdP p)).2[k] = b := ⟨_, rfl⟩
    rw [hb] at hbox har ⊢
    obtain ⟨n1, n2, n3, n4⟩ := box_nonneg hbox
    have hlow := hbox.low
    have hright := hbox.right
    have hall := hbox.all
    simp only at n1 n2 n3 n4 hlow hright hall
    obtain ⟨m1, m1a, m1b, m1c⟩ := hlow
    obtain ⟨m2, m2a, m2b, m2c⟩ := hright
    have d1 : m1 / wdP p < p.length := Nat.div_lt_of_lt_mul (by rw [Nat.mul_comm]; exact m1a)
    have d2 : m2 % wdP p < wdP p := Nat.mod_lt _ (by omega)
    refine ⟨b1.toNat, b2.toNat, b3.toNat, b4.toNat, ?_, by omega, by omega, by omega, by omega, fun i j hi hj => ?_⟩
    · unfold natB
      rw [Int.toNat_of_nonneg n1, Int.toNat_of_nonneg n2, Int.toNat_of_nonneg (by omega), Int.toNat_of_nonneg (by omega)]
    · have hnm := hN _ (hat i j hi hj)
      unfold clP
      constructor
      · intro hc
        rw [hc] at hnm
        have := hall _ (hat i j hi hj) hnm
        rw [(div_row hj).1, (div_row hj).2] at this
        omega
      · rintro ⟨⟨e1, e2⟩, e3, e4⟩
        have := box_full hbox har hi hj (by simp only; omega) (by simp only; omega) (by simp only; omega) (by simp only; omega)
        omega
theorem planTG {p : List ByteArray} (h : planG p = true) : TG p p.length (wdP p) (gridOf (clP p) 0 0) := by
  have F := planFacts h
  obtain ⟨hT, h1, h3⟩ := textGrid_of F.let_ F.shape
  have hN := named_of F.let_ F.shape F.named
  have hat : ∀ i j, i < p.length → j < wdP p → i * wdP p + j < p.length * wdP p := fun i j hi hj => by
    have : (i + 1) * wdP p ≤ p.length * wdP p := Nat.mul_le_mul_right _ hi
    rw [Nat.succ_mul] at this; omega
  have hg : ∀ i j, i < p.length → j < wdP p → fP p (i * wdP p + j) = gridOf (clP p) 0 0 i j := fun i j hi hj => by
    unfold gridOf clP
    rw [Nat.zero_add, Nat.zero_add]
    exact hN _ (hat i j hi hj)
  refine ⟨rfl, fun i hi => ?_, fun i j hi hj => ?_, fun i j hi hj => ?_, ⟨h1, hT.high⟩, ⟨h3, hT.wide⟩⟩
  · rw [rdOf_at hi]; exact hT.size i hi
  · rw [rdOf_at hi, ← hg i j hi hj]; exact hT.cell i j hi hj
  · rw [← hg i j hi hj]; exact hT.let_ _ (hat i j hi hj)
theorem FloorAt.reads {W : World} {base fb : Nat} {p : List ByteArray} (hf : FloorAt W base fb (numsOf (rowsOf p)) (scanOf (rowsOf p)).2) : FloorR W fb p.length (wdP p) (clP p) (boxesP p) := by
  obtain ⟨g, h, rv, rows, h1, h2, h3, h4, h5, h6⟩ := hf
  have hlen : (rowsOf p).length = p.length := by unfold rowsOf; rw [List.length_map]
  have hh : h = p.length := by
    rw [← h4]
    have := congrArg List.length h3
    rw [List.length_map] at this
    rw [this]
    unfold numsOf
    rw [List.length_map, List.length_range, hlen]
  subst hh
  have hfb := (Array.getElem?_eq_some_iff.1 h1).1
  have hg := (Array.getElem?_eq_some_iff.1 h2.1).1
  have hrow : ∀ r (hr : r < p.length), (rows[r]'(by omega)).2 = (List.range (wdP p)).map fun c => ((numAt (wdP p) (fP p) (r * wdP p + c) : Nat) : Int) := fun r hr => by
    have := congrArg (fun l => l[r]?) h3
    unfold numsOf at this
    rw [List.getElem?_map, List.getElem?_map, List.getElem?_range (by omega), List.getElem?_eq_getElem (by omega)] at this
    exact Option.some.inj this
  have hrooms : ∃ (RA : Option Addr) (rc : Nat), rv = .slice RA (boxesP p).length rc ∧ (boxesP p ≠ [] → ∃ rg, RA = some ⟨rg, 0, none⟩ ∧ rg < W.heap.size ∧ ∀ k (hk : k < (boxesP p).length), W.cell? ⟨rg, k * 4, none⟩ = some (.int .i64 (boxesP p)[k].1) ∧ W.cell? ⟨rg, k * 4 + 1, none⟩ = some (.int .i64 (boxesP p)[k].2.1) ∧ W.cell? ⟨rg, k * 4 + 2, none⟩ = some (.int .i64 (boxesP p)[k].2.2.1) ∧ W.cell? ⟨rg, k * 4 + 3, none⟩ = some (.int .i64 (boxesP p)[k].2.2.2)) := by
    change Rooms W base rv (boxesP p) at h5
    by_cases he : boxesP p = []
    · obtain ⟨A, c, e⟩ := own_slice h5
      exact ⟨A, c, e, fun hne => absurd he hne⟩
    · obtain ⟨rg, c, e, _, _, hlt, _, hc⟩ := Rooms.form h5 (List.length_pos_iff.2 he)
      exact ⟨_, c, e, fun _ => ⟨rg, rfl, hlt, hc⟩⟩
  obtain ⟨RA, rc, hrv, hro⟩ := hrooms
  refine ⟨g, fun r => (rows.getD r (0, [])).1, RA, rc, hfb, hg, ?_, ?_, fun r hr => ?_, hro⟩
  · rw [Lib.cell_of_heap h1]; rfl
  · rw [Lib.cell_of_heap h1, hrv]; rfl
  · have hrl : r < rows.length := by omega
    have hD : rows.getD r (0, []) = rows[r] := by rw [List.getD_eq_getElem?_getD, List.getElem?_eq_getElem hrl]; rfl
    have hI := h2.2 _ (List.getElem_mem hrl)
    have hlenr : (rows[r]).2.length = wdP p := by rw [hrow r hr, List.length_map, List.length_range]
    simp only [hD]
    refine ⟨(Array.getElem?_eq_some_iff.1 hI).1, ?_, fun c hc => ?_⟩
    · have := h2.cell r (rowV rows[r]) (by rw [List.getElem?_append_left (by rw [List.length_map]; exact hrl), List.getElem?_map, List.getElem?_eq_getElem hrl]; rfl)
      rw [this]; unfold rowV; rw [hlenr]
    · rw [hI.cell c (by omega)]
      unfold clP
      congr 2
      simp only [hrow r hr, List.getElem_map, List.getElem_range]
end Go.Proofs.Ytdhnjecbdclmaaa
end
section
namespace Go.Proofs.Ytdhnjecbdclmaaa
open Go.RowKit Go.Shelf Go.Proofs.YtdhnjecbdclmaaaW.PrintWords Go.Proofs.YtdhnjecbdclmaaaW.PrintMore
set_option linter.unusedVariables false
set_option linter.unusedSimpArgs false
theorem two_set {W : World} {b : Nat} {t : TypeId} {x y : Value} (h : W.heap[b]? = some (.cells #[x, y] t (0, 0))) (z : Value) : (W.setCell ⟨b, 0, none⟩ z).heap[b]? = some (.cells #[z, y] t (0, 0)) ∧ (W.setCell ⟨b, 1, none⟩ z).heap[b]? = some (.cells #[x, z] t (0, 0)) := by
  constructor
  · show (W.setCells b 0 [z]).heap[b]? = _
    obtain ⟨cur', p1, p2, p3⟩ := setCells_row [z] 0 W #[x, y] h (by show 0 + 1 ≤ 2; omega)
    rw [p1, show cur' = #[z, y] from Array.toList_inj.1 p3]
  · show (W.setCells b 1 [z]).heap[b]? = _
    obtain ⟨cur', p1, p2, p3⟩ := setCells_row [z] 1 W #[x, y] h (by show 1 + 1 ≤ 2; omega)
    rw [p1, show cur' = #[x, z] from Array.toList_inj.1 p3]
def wallVal (x : WallT) : Value := .agg #[.bool x.1, .int .i64 x.2.1, .int .i64 x.2.2.1, .int .i64 x.2.2.2]
end Go.Proofs.Ytdhnjecbdclmaaa
end
