/- Texts of this claim's, joined by a program: LSpecText, LPlanFlat, LWallMany, LKindP, LOrdP, LOrdQ. -/
import Derived.Test.YtdhnjecbdclmaaaKLFourDM
import Derived.Test.YtdhnjecbdclmaaaKLWalls
import Derived.Lib.SlicesCompact
section
namespace Go.Proofs.Ytdhnjecbdclmaaa
open Go.RowKit Go.Shelf Go.Proofs.YtdhnjecbdclmaaaW.PrintWords Go.Proofs.YtdhnjecbdclmaaaW.PrintMore L3
set_option linter.unusedVariables false
end Go.Proofs.Ytdhnjecbdclmaaa
end
section
namespace Go.Proofs.Ytdhnjecbdclmaaa
open Go.RowKit Go.Shelf Go.Proofs.YtdhnjecbdclmaaaW.PrintWords Go.Proofs.YtdhnjecbdclmaaaW.PrintMore
set_option linter.unusedVariables false
def wdP (p : List ByteArray) : Nat := ((rowsOf p).getD 0 []).length
def fP (p : List ByteArray) : Nat → Int := cellOf (rowsOf p) (wdP p)
def clP (p : List ByteArray) (i j : Nat) : Int := ((numAt (wdP p) (fP p) (i * wdP p + j) : Nat) : Int)
def boxesP (p : List ByteArray) : List Box := (scanOf (rowsOf p)).2
theorem boxesP_scan (p : List ByteArray) : boxesP p = (scan (wdP p) (fP p) (p.length * wdP p)).2 := by
  unfold boxesP scanOf wdP fP
  have hlen : (rowsOf p).length = p.length := by unfold rowsOf; rw [List.length_map]
  rw [hlen]; rfl
theorem cnt_put (f : Nat → Int) (x : Int) (m : Nat) (hm : f m ≠ x) : ∀ n, cntX (fun i => if i = m then x else f i) x n = cntX f x n + if m < n then 1 else 0 := by
  intro n
  induction n with
  | zero => simp [cntX, sumTo]
  | succ n ih =>
    unfold cntX at ih ⊢
    unfold sumTo
    rw [ih]
    by_cases e : n = m
    · subst e
      simp only [if_true, if_neg hm, if_neg (Nat.lt_irrefl n), if_pos (Nat.lt_succ_self n)]
    · simp only [if_neg e]
      have e1 : (if m < n + 1 then 1 else 0) = (if m < n then 1 else (0 : Nat)) := by
        by_cases h2 : m < n
        · rw [if_pos h2, if_pos (by omega)]
        · rw [if_neg h2, if_neg (by omega)]
      rw [e1]; omega
theorem box_full {w h : Nat} {f : Nat → Int} {x : Int} {b : Box} (hb : IsBox w f (h * w) x b) (ha : (cntX f x (h * w) : Int) = areaB b) {i j : Nat} (hi : i < h) (hj : j < w) (h1 : b.1 ≤ (i : Int)) (h2 : (i : Int) < b.1 + b.2.2.1) (h3 : b.2.1 ≤ (j : Int)) (h4 : (j : Int) < b.2.1 + b.2.2.2) : f (i * w + j) = x := by
  apply Classical.byContradiction
  intro hne
  have hlt : i * w + j < h * w := by
    have : (i + 1) * w ≤ h * w := Nat.mul_le_mul_right _ hi
    rw [Nat.succ_mul] at this; omega
  have hw : ∀ m, f m = x → (fun q => if q = i * w + j then x else f q) m = x := fun m hm => by
    show (if m = i * w + j then x else f m) = x
    split
    · rfl
    · exact hm
  have hb2 : IsBox w (fun q => if q = i * w + j then x else f q) (h * w) x b := by
    refine ⟨fun m hm he => ?_, ?_, ?_, ?_, ?_⟩
    · by_cases e : m = i * w + j
      · subst e
        rw [(div_row hj).1, (div_row hj).2]
        exact ⟨h1, h2, h3, h4⟩
      · have he' : (if m = i * w + j then x else f m) = x := he
        rw [if_neg e] at he'
        exact hb.all m hm he'
    · obtain ⟨m, a, b', c⟩ := hb.top; exact ⟨m, a, hw m b', c⟩
    · obtain ⟨m, a, b', c⟩ := hb.low; exact ⟨m, a, hw m b', c⟩
    · obtain ⟨m, a, b', c⟩ := hb.left; exact ⟨m, a, hw m b', c⟩
    · obtain ⟨m, a, b', c⟩ := hb.right; exact ⟨m, a, hw m b', c⟩
  have hle := cnt_le_area hb2
  rw [cnt_put f x _ hne, if_pos hlt] at hle
  omega
structure PlanFacts (p : List ByteArray) : Prop where
  let_ : lettersB p = true
  shape : shapeB (rowsOf p) = true
  few : (boxesP p).length ≤ 9
  full : fullB (rowsOf p) = true
  named : (numsOf (rowsOf p)).map rowText = p
theorem planFacts {p : List ByteArray} (h : planG p = true) : PlanFacts p := by
  unfold planG at h
  simp only [Bool.and_eq_true, decide_eq_true_eq] at h
  exact ⟨h.1, h.2.1.1, h.2.1.2, h.2.2.1, h.2.2.2⟩
theorem planFlat {p : List ByteArray} (h : planG p = true) : Flat (clP p) (boxesP p) p.length (wdP p) := by
  have F := planFacts h
  obtain ⟨hT, h1, h3⟩ := textGrid_of F.let_ F.shape
  have hN := named_of F.let_ F.shape F.named
  have hlen : (rowsOf p).length = p.length := by unfold rowsOf; rw [List.length_map]
  have hh := hT.high
  have hw := hT.wide
  change wdP p ≤ 6 at hw
  change 1 ≤ wdP p at h3
  change Named (wdP p) (fP p) (p.length * wdP p) at hN
  have hsl := scan_len (w := wdP p) (f := fP p) (p.length * wdP p)
  have hbl : (boxesP p).length = (scan (wdP p) (fP p) (p.length * wdP p)).1.length := by rw [boxesP_scan, hsl]
  have hat : ∀ i j, i < p.length → j < wdP p → i * wdP p + j < p.length * wdP p := fun i j hi hj => by
    have : (i + 1) * wdP p ≤ p.length * wdP p := Nat.mul_le_mul_right _ hi
    rw [Nat.succ_mul] at this; omega
  refine ⟨⟨h1, hh⟩, ⟨h3, hw⟩, F.few, fun i j hi hj => ⟨_, ?_, rfl⟩, fun k hk => ?_⟩
  · rw [hbl]; exact num_lt (hat i j hi hj)
  · have hk1 : k < (scan (wdP p) (fP p) (p.length * wdP p)).1.length := by rw [← hbl]; exact hk
    have hk2 : k < (scan (wdP p) (fP p) (p.length * wdP p)).2.length := by rw [← hsl]; exact hk1
    have hbox := scan_box (w := wdP p) (f := fP p) (p.length * wdP p) k hk1 hk2
    rw [named_ord hN k hk1] at hbox
    have hfu := F.full
    unfold fullB scanOf at hfu
    rw [hlen, decide_eq_true_eq] at hfu
    have har := (area_all (wdP p) p.length (fP p)).1 (by push_cast; exact hfu) k hk1 hk2
    rw [named_ord hN k hk1] at har
    have he : (boxesP p)[k] = (scan (wdP p) (fP p) (p.length * wdP p)).2[k] := by simp only [boxesP_scan]
    rw [he]
    obtain ⟨⟨b1, b2, b3, b4⟩, hb⟩ : ∃ b, (scan (wdP p) (fP p) (p.length * wdP p)).2[k] = b := ⟨_, rfl⟩
    rw [hb] at hbox har ⊢
    obtain ⟨n1, n2, n3, n4⟩ := box_nonneg hbox
    have hlow := hbox.low
    have hright := hbox.right
    have hall := hbox.all
    simp only at n1 n2 n3 n4 hlow hright hall
    obtain ⟨m1, m1a, m1b, m1c⟩ := hlow
    obtain ⟨m2, m2a, m2b, m2c⟩ := hright
    have d1 : m1 / wdP p < p.length := Nat.div_lt_of_lt_mul (by rw [Nat.mul_comm]; exact m1a)
    have d2 : m2 % wdP p < wdP p := Nat.mod_lt _ (by omega)
    refine ⟨b1.toNat, b2.toNat, b3.toNat, b4.toNat, ?_, by omega, by omega, by omega, by omega, fun i j hi hj => ?_⟩
    · unfold natB
      rw [Int.toNat_of_nonneg n1, Int.toNat_of_nonneg n2, Int.toNat_of_nonneg (by omega), Int.toNat_of_nonneg (by omega)]
    · have hnm := hN _ (hat i j hi hj)
      unfold clP
      constructor
      · intro hc
        rw [hc] at hnm
        have := hall _ (hat i j hi hj) hnm
        rw [(div_row hj).1, (div_row hj).2] at this
        omega
      · rintro ⟨⟨e1, e2⟩, e3, e4⟩
        have := box_full hbox har hi hj (by simp only; omega) (by simp only; omega) (by simp only; omega) (by simp only; omega)
        omega
theorem planTG {p : List ByteArray} (h : planG p = true) : TG p p.length (wdP p) (gridOf (clP p) 0 0) := by
  have F := planFacts h
  obtain ⟨hT, h1, h3⟩ := textGrid_of F.let_ F.shape
  have hN := named_of F.let_ F.shape F.named
  have hat : ∀ i j, i < p.length → j < wdP p → i * wdP p + j < p.length * wdP p := fun i j hi hj => by
    have : (i + 1) * wdP p ≤ p.length * wdP p := Nat.mul_le_mul_right _ hi
    rw [Nat.succ_mul] at this; omega
  have hg : ∀ i j, i < p.length → j < wdP p → fP p (i * wdP p + j) = gridOf (clP p) 0 0 i j := fun i j hi hj => by
    unfold gridOf clP
    rw [Nat.zero_add, Nat.zero_add]
    exact hN _ (hat i j hi hj)
  refine ⟨rfl, fun i hi => ?_, fun i j hi hj => ?_, fun i j hi hj => ?_, ⟨h1, hT.high⟩, ⟨h3, hT.wide⟩⟩
  · rw [rdOf_at hi]; exact hT.size i hi
  · rw [rdOf_at hi, ← hg i j hi hj]; exact hT.cell i j hi hj
  · rw [← hg i j hi hj]; exact hT.let_ _ (hat i j hi hj)
theorem FloorAt.reads {W : World} {base fb : Nat} {p : List ByteArray} (hf : FloorAt W base fb (numsOf (rowsOf p)) (scanOf (rowsOf p)).2) : FloorR W fb p.length (wdP p) (clP p) (boxesP p) := by
  obtain ⟨g, h, rv, rows, h1, h2, h3, h4, h5, h6⟩ := hf
  have hlen : (rowsOf p).length = p.length := by unfold rowsOf; rw [List.length_map]
  have hh : h = p.length := by
    rw [← h4]
    have := congrArg List.length h3
    rw [List.length_map] at this
    rw [this]
    unfold numsOf
    rw [List.length_map, List.length_range, hlen]
  subst hh
  have hfb := (Array.getElem?_eq_some_iff.1 h1).1
  have hg := (Array.getElem?_eq_some_iff.1 h2.1).1
  have hrow : ∀ r (hr : r < p.length), (rows[r]'(by omega)).2 = (List.range (wdP p)).map fun c => ((numAt (wdP p) (fP p) (r * wdP p + c) : Nat) : Int) := fun r hr => by
    have := congrArg (fun l => l[r]?) h3
    unfold numsOf at this
    rw [List.getElem?_map, List.getElem?_map, List.getElem?_range (by omega), List.getElem?_eq_getElem (by omega)] at this
    exact Option.some.inj this
  have hrooms : ∃ (RA : Option Addr) (rc : Nat), rv = .slice RA (boxesP p).length rc ∧ (boxesP p ≠ [] → ∃ rg, RA = some ⟨rg, 0, none⟩ ∧ rg < W.heap.size ∧ ∀ k (hk : k < (boxesP p).length), W.cell? ⟨rg, k * 4, none⟩ = some (.int .i64 (boxesP p)[k].1) ∧ W.cell? ⟨rg, k * 4 + 1, none⟩ = some (.int .i64 (boxesP p)[k].2.1) ∧ W.cell? ⟨rg, k * 4 + 2, none⟩ = some (.int .i64 (boxesP p)[k].2.2.1) ∧ W.cell? ⟨rg, k * 4 + 3, none⟩ = some (.int .i64 (boxesP p)[k].2.2.2)) := by
    change Rooms W base rv (boxesP p) at h5
    by_cases he : boxesP p = []
    · obtain ⟨A, c, e⟩ := own_slice h5
      exact ⟨A, c, e, fun hne => absurd he hne⟩
    · obtain ⟨rg, c, e, _, _, hlt, _, hc⟩ := Rooms.form h5 (List.length_pos_iff.2 he)
      exact ⟨_, c, e, fun _ => ⟨rg, rfl, hlt, hc⟩⟩
  obtain ⟨RA, rc, hrv, hro⟩ := hrooms
  refine ⟨g, fun r => (rows.getD r (0, [])).1, RA, rc, hfb, hg, ?_, ?_, fun r hr => ?_, hro⟩
  · rw [Lib.cell_of_heap h1]; rfl
  · rw [Lib.cell_of_heap h1, hrv]; rfl
  · have hrl : r < rows.length := by omega
    have hD : rows.getD r (0, []) = rows[r] := by rw [List.getD_eq_getElem?_getD, List.getElem?_eq_getElem hrl]; rfl
    have hI := h2.2 _ (List.getElem_mem hrl)
    have hlenr : (rows[r]).2.length = wdP p := by rw [hrow r hr, List.length_map, List.length_range]
    simp only [hD]
    refine ⟨(Array.getElem?_eq_some_iff.1 hI).1, ?_, fun c hc => ?_⟩
    · have := h2.cell r (rowV rows[r]) (by rw [List.getElem?_append_left (by rw [List.length_map]; exact hrl), List.getElem?_map, List.getElem?_eq_getElem hrl]; rfl)
      rw [this]; unfold rowV; rw [hlenr]
    · rw [hI.cell c (by omega)]
      unfold clP
      congr 2
      simp only [hrow r hr, List.getElem_map, List.getElem_range]
end Go.Proofs.Ytdhnjecbdclmaaa
end
section
namespace Go.Proofs.Ytdhnjecbdclmaaa
open Go.RowKit Go.Shelf Go.Proofs.YtdhnjecbdclmaaaW.PrintWords Go.Proofs.YtdhnjecbdclmaaaW.PrintMore
set_option linter.unusedVariables false
set_option linter.unusedSimpArgs false
theorem two_set {W : World} {b : Nat} {t : TypeId} {x y : Value} (h : W.heap[b]? = some (.cells #[x, y] t (0, 0))) (z : Value) : (W.setCell ⟨b, 0, none⟩ z).heap[b]? = some (.cells #[z, y] t (0, 0)) ∧ (W.setCell ⟨b, 1, none⟩ z).heap[b]? = some (.cells #[x, z] t (0, 0)) := by
  constructor
  · show (W.setCells b 0 [z]).heap[b]? = _
    obtain ⟨cur', p1, p2, p3⟩ := setCells_row [z] 0 W #[x, y] h (by show 0 + 1 ≤ 2; omega)
    rw [p1, show cur' = #[z, y] from Array.toList_inj.1 p3]
  · show (W.setCells b 1 [z]).heap[b]? = _
    obtain ⟨cur', p1, p2, p3⟩ := setCells_row [z] 1 W #[x, y] h (by show 1 + 1 ≤ 2; omega)
    rw [p1, show cur' = #[x, z] from Array.toList_inj.1 p3]
def wallVal (x : WallT) : Value := .agg #[.bool x.1, .int .i64 x.2.1, .int .i64 x.2.2.1, .int .i64 x.2.2.2]
end Go.Proofs.Ytdhnjecbdclmaaa
end
section
namespace Go.Proofs.Ytdhnjecbdclmaaa
set_option linter.unusedVariables false
set_option linter.unusedSimpArgs false
def Rects (cl : Nat → Nat → Int) (h w : Nat) : Prop := ∀ i j, i < h → j < w → ∃ t d l e, (t ≤ i ∧ i < d ∧ d ≤ h) ∧ (l ≤ j ∧ j < e ∧ e ≤ w) ∧ ∀ i' j', i' < h → j' < w → (cl i' j' = cl i j ↔ (t ≤ i' ∧ i' < d) ∧ l ≤ j' ∧ j' < e)
def NoCross (cl : Nat → Nat → Int) (h w : Nat) : Prop := ∀ i j, 1 ≤ i → i < h → 1 ≤ j → j < w → ¬ (cl (i - 1) (j - 1) ≠ cl (i - 1) j ∧ cl (i - 1) (j - 1) ≠ cl i (j - 1) ∧ cl (i - 1) (j - 1) ≠ cl i j ∧ cl (i - 1) j ≠ cl i (j - 1) ∧ cl (i - 1) j ≠ cl i j ∧ cl i (j - 1) ≠ cl i j)
def flip (cl : Nat → Nat → Int) : Nat → Nat → Int := fun i j => cl j i
theorem Rects.flip {cl : Nat → Nat → Int} {h w : Nat} (r : Rects cl h w) : Rects (flip cl) w h := fun i j hi hj => by
  obtain ⟨t, d, l, e, h1, h2, h3⟩ := r j i hj hi
  refine ⟨l, e, t, d, h2, h1, fun i' j' hi' hj' => ?_⟩
  have := h3 j' i' hj' hi'
  unfold Ytdhnjecbdclmaaa.flip
  rw [this]
  exact And.comm
theorem NoCross.flip {cl : Nat → Nat → Int} {h w : Nat} (r : NoCross cl h w) : NoCross (flip cl) w h := fun i j h1 h2 h3 h4 hc => by
  obtain ⟨c1, c2, c3, c4, c5, c6⟩ := hc
  exact r j i h3 h4 h1 h2 ⟨c2, c1, c3, fun e => c4 e.symm, c6, c5⟩
def LSeg (cl : Nat → Nat → Int) (h w : Nat) (u v : Int) : Prop := ∃ x i j, 1 ≤ x ∧ x < w ∧ i < h ∧ j < h ∧ (∀ r, (i ≤ r ∧ r ≤ j) ∨ (j ≤ r ∧ r ≤ i) → cl r (x - 1) ≠ cl r x) ∧ cl i (x - 1) = u ∧ cl j x = v
def ASeg (cl : Nat → Nat → Int) (h w : Nat) (u v : Int) : Prop := LSeg (flip cl) w h u v
section
variable {cl : Nat → Nat → Int} {h w : Nat} {a : Int} {SR SD : Int → Prop}
end
end Go.Proofs.Ytdhnjecbdclmaaa
end
section
namespace Go.Proofs.Ytdhnjecbdclmaaa
set_option linter.unusedVariables false
set_option linter.unusedSimpArgs false
def maxR (P : Nat → Bool) (g : Nat → Int) : Nat → Int
  | 0 => 0
  | k + 1 => if P k = true then max (maxR P g k) (g k) else maxR P g k
theorem maxR_nonneg (P : Nat → Bool) (g : Nat → Int) : ∀ k, 0 ≤ maxR P g k := by
  intro k
  induction k with
  | zero => exact Int.le_refl _
  | succ k ih => unfold maxR; split <;> omega
theorem maxR_ge {P : Nat → Bool} {g : Nat → Int} : ∀ k a, a < k → P a = true → g a ≤ maxR P g k := by
  intro k
  induction k with
  | zero => intro a ha; omega
  | succ k ih =>
    intro a ha hp
    unfold maxR
    by_cases e : a = k
    · subst e; rw [if_pos hp]; omega
    · have := ih a (by omega) hp
      split <;> omega
theorem maxR_le {P : Nat → Bool} {g : Nat → Int} {m : Int} (h0 : 0 ≤ m) : ∀ k, (∀ a, a < k → P a = true → g a ≤ m) → maxR P g k ≤ m := by
  intro k
  induction k with
  | zero => intro _; exact h0
  | succ k ih =>
    intro h
    have := ih (fun a ha => h a (by omega))
    unfold maxR
    split
    · rename_i hp
      have := h k (by omega) hp
      omega
    · exact this
theorem maxR_congr {P : Nat → Bool} {g g' : Nat → Int} : ∀ k, (∀ a, a < k → P a = true → g a = g' a) → maxR P g k = maxR P g' k := by
  intro k
  induction k with
  | zero => intro _; rfl
  | succ k ih =>
    intro h
    unfold maxR
    rw [ih (fun a ha => h a (by omega))]
    by_cases hp : P k = true
    · rw [if_pos hp, if_pos hp, h k (by omega) hp]
    · rw [if_neg hp, if_neg hp]
theorem maxR_some {P : Nat → Bool} {g : Nat → Int} : ∀ k, maxR P g k = 0 ∨ ∃ a, a < k ∧ P a = true ∧ maxR P g k = g a := by
  intro k
  induction k with
  | zero => exact .inl rfl
  | succ k ih =>
    unfold maxR
    by_cases hp : P k = true
    · rw [if_pos hp]
      by_cases hm : maxR P g k ≤ g k
      · exact .inr ⟨k, by omega, hp, by omega⟩
      · rw [show max (maxR P g k) (g k) = maxR P g k by omega]
        rcases ih with h | ⟨a, h1, h2, h3⟩
        · exact .inl h
        · exact .inr ⟨a, by omega, h2, h3⟩
    · rw [if_neg hp]
      rcases ih with h | ⟨a, h1, h2, h3⟩
      · exact .inl h
      · exact .inr ⟨a, by omega, h2, h3⟩
def Grows (n : Nat) (R : Nat → Nat → Bool) (rk : Nat → Nat) : Prop := (∀ a b, a < n → b < n → R a b = true → rk a < rk b) ∧ ∀ b, b < n → rk b < n
def heavy (n : Nat) (R : Nat → Nat → Bool) (w : Nat → Int) : Nat → Nat → Int
  | 0, _ => 0
  | k + 1, b => maxR (fun a => R a b) (heavy n R w k) n + w b
theorem heavy_more {n : Nat} {R : Nat → Nat → Bool} {rk : Nat → Nat} (w : Nat → Int) (hg : Grows n R rk) : ∀ k j b, b < n → rk b < k → rk b < j → heavy n R w k b = heavy n R w j b := by
  intro k
  induction k with
  | zero => intro j b _ h; omega
  | succ k ih =>
    intro j b hb h1 h2
    obtain ⟨j, rfl⟩ : ∃ i, j = i + 1 := ⟨j - 1, by omega⟩
    unfold heavy
    congr 1
    refine maxR_congr n fun a ha hr => ?_
    have := hg.1 a b ha hb hr
    exact ih j a ha (by omega) (by omega)
def heavyN (n : Nat) (R : Nat → Nat → Bool) (w : Nat → Int) (b : Nat) : Int := heavy n R w n b
theorem heavyN_eq {n : Nat} {R : Nat → Nat → Bool} {rk : Nat → Nat} {w : Nat → Int} (hg : Grows n R rk) {b : Nat} (hb : b < n) : heavyN n R w b = maxR (fun a => R a b) (heavyN n R w) n + w b := by
  have e := heavy_more w hg n (n + 1) b hb (hg.2 b hb) (by have := hg.2 b hb; omega)
  unfold heavyN
  rw [e]
  rfl
def LeP (n : Nat) (P : Nat → Int) (out : Nat → Int) : Prop := ∀ x, x < n → 0 ≤ out x ∧ out x ≤ P x
section
variable {n : Nat} {R : Nat → Nat → Bool} {w P : Nat → Int} (hw : ∀ a, a < n → 0 ≤ w a) (hP : ∀ a b, a < n → b < n → R a b = true → P a + w a ≤ P b)
include hw hP
end
def heavyF (n : Nat) (R : Nat → Nat → Bool) (a : Nat) : Int := heavyN n (fun x y => R y x) (fun _ => 1) a
def topR (g : Nat → Int) (n : Nat) : Int := maxR (fun _ => true) g n
theorem topR_back {n : Nat} {R : Nat → Nat → Bool} {rk rk' : Nat → Nat} (hg : Grows n R rk) (hg' : Grows n (fun x y => R y x) rk') : topR (heavyN n R fun _ => 1) n = topR (heavyF n R) n := by
  have pos : ∀ {S : Nat → Nat → Bool} {r : Nat → Nat}, Grows n S r → ∀ b, b < n → 1 ≤ heavyN n S (fun _ => 1) b := fun {S} {r} hs b hb => by
    rw [heavyN_eq hs hb]
    have := maxR_nonneg (fun a => S a b) (heavyN n S fun _ => 1) n
    omega
  have main : ∀ {S : Nat → Nat → Bool} {r r' : Nat → Nat}, Grows n S r → Grows n (fun x y => S y x) r' → ∀ k b, b < n → r b < k → heavyN n S (fun _ => 1) b - 1 + heavyN n (fun x y => S y x) (fun _ => 1) b ≤ topR (heavyN n (fun x y => S y x) fun _ => 1) n := by
    intro S r r' hs hs' k
    induction k with
    | zero => intro b _ h; omega
    | succ k ih =>
      intro b hb hk
      rw [heavyN_eq hs hb]
      rcases maxR_some (P := fun a => S a b) (g := heavyN n S fun _ => 1) n with h | ⟨a, h1, h2, h3⟩
      · rw [h]
        have := maxR_ge (P := fun _ => true) (g := heavyN n (fun x y => S y x) fun _ => 1) n b hb rfl
        unfold topR; omega
      · have h4 := hs.1 a b h1 hb h2
        have h5 := ih a h1 (by omega)
        have h6 : heavyN n (fun x y => S y x) (fun _ => 1) b + 1 ≤ heavyN n (fun x y => S y x) (fun _ => 1) a := by
          rw [heavyN_eq hs' h1]
          have := maxR_ge (P := fun x => S a x) (g := heavyN n (fun x y => S y x) fun _ => 1) n b hb h2
          change _ ≤ maxR (fun x => S a x) (heavyN n (fun x y => S y x) fun _ => 1) n + 1
          omega
        rw [h3]; omega
  refine Int.le_antisymm ?_ ?_
  · refine maxR_le (maxR_nonneg _ _ _) n fun b hb _ => ?_
    have h1 := main hg hg' (rk b + 1) b hb (Nat.lt_succ_self _)
    have h2 := pos hg' b hb
    change heavyN n R (fun _ => 1) b ≤ topR (heavyN n (fun x y => R y x) fun _ => 1) n
    omega
  · refine maxR_le (maxR_nonneg _ _ _) n fun b hb _ => ?_
    have h1 := main hg' (by exact hg) (rk' b + 1) b hb (Nat.lt_succ_self _)
    have h2 := pos hg b hb
    change heavyN n (fun x y => R y x) (fun _ => 1) b ≤ topR (heavyN n R fun _ => 1) n
    change heavyN n (fun x y => R y x) (fun _ => 1) b - 1 + heavyN n R (fun _ => 1) b ≤ topR (heavyN n R fun _ => 1) n at h1
    omega
def closeRow (R : Nat → Nat → Bool) (k a : Nat) : Nat → Nat → Bool := fun x y => if x = a then R a y || (R a k && R k y) else R x y
def closeA (R : Nat → Nat → Bool) (k : Nat) : Nat → Nat → Nat → Bool
  | 0 => R
  | a + 1 => closeRow (closeA R k a) k a
def closeK (n : Nat) (R : Nat → Nat → Bool) : Nat → Nat → Nat → Bool
  | 0 => R
  | k + 1 => closeA (closeK n R k) k n
def closeB (n : Nat) (R : Nat → Nat → Bool) : Nat → Nat → Bool := closeK n R n
theorem close_grows {n : Nat} {f : Nat → Nat} : ∀ {R : Nat → Nat → Bool}, (∀ a b, a < n → b < n → R a b = true → f a < f b) → ∀ a b, a < n → b < n → closeB n R a b = true → f a < f b := by
  intro R h
  have hrow : ∀ S : Nat → Nat → Bool, (∀ a b, a < n → b < n → S a b = true → f a < f b) → ∀ k a, k < n → a < n → ∀ x y, x < n → y < n → closeRow S k a x y = true → f x < f y := by
    intro S hS k a hk ha x y hx hy hc
    unfold closeRow at hc
    split at hc
    · rename_i e
      subst e
      rw [Bool.or_eq_true, Bool.and_eq_true] at hc
      rcases hc with hc | ⟨h1, h2⟩
      · exact hS x y hx hy hc
      · exact Nat.lt_trans (hS x k hx hk h1) (hS k y hk hy h2)
    · exact hS x y hx hy hc
  have hA : ∀ S : Nat → Nat → Bool, (∀ a b, a < n → b < n → S a b = true → f a < f b) → ∀ k, k < n → ∀ m, m ≤ n → ∀ x y, x < n → y < n → closeA S k m x y = true → f x < f y := by
    intro S hS k hk m
    induction m with
    | zero => intro _; exact hS
    | succ m ih => intro hm; exact hrow _ (ih (by omega)) k m hk (by omega)
  have hK : ∀ m, m ≤ n → ∀ x y, x < n → y < n → closeK n R m x y = true → f x < f y := by
    intro m
    induction m with
    | zero => intro _; exact h
    | succ m ih => intro hm; exact hA _ (ih (by omega)) m (by omega) n (Nat.le_refl _)
  exact hK n (Nat.le_refl _)
theorem closeA_eq (S : Nat → Nat → Bool) (k : Nat) : ∀ m x y, closeA S k m x y = if x < m then S x y || (S x k && S k y) else S x y := by
  intro m
  induction m with
  | zero => intro x y; rw [if_neg (by omega)]; rfl
  | succ m ih =>
    intro x y
    show closeRow (closeA S k m) k m x y = _
    unfold closeRow
    by_cases e : x = m
    · subst e
      rw [if_pos rfl, if_pos (by omega), ih x y, ih x k, ih k y, if_neg (by omega), if_neg (by omega)]
      by_cases hk : k < x
      · rw [if_pos hk]
        cases S x k <;> cases S k k <;> cases S k y <;> simp
      · rw [if_neg hk]
    · rw [if_neg e, ih x y]
      by_cases h1 : x < m
      · rw [if_pos h1, if_pos (by omega)]
      · rw [if_neg h1, if_neg (by omega)]
end Go.Proofs.Ytdhnjecbdclmaaa
end
section
namespace Go.Proofs.Ytdhnjecbdclmaaa
set_option linter.unusedVariables false
set_option linter.unusedSimpArgs false
set_option linter.unusedSectionVars false
def EqR (n : Nat) (R S : Nat → Nat → Bool) : Prop := ∀ x y, x < n → y < n → R x y = S x y
theorem closeA_cong {n : Nat} {R S : Nat → Nat → Bool} (h : EqR n R S) {k : Nat} (hk : k < n) (m : Nat) : EqR n (closeA R k m) (closeA S k m) := by
  intro x y hx hy
  rw [closeA_eq, closeA_eq, h x y hx hy, h x k hx hk, h k y hk hy]
theorem grows_rank {n : Nat} {R : Nat → Nat → Bool} {f : Nat → Nat} (h : ∀ a b, a < n → b < n → R a b = true → f a < f b) : Grows n R (fun b => ((List.range n).filter fun a => decide (f a < f b)).length) := by
  refine ⟨fun a b ha hb hr => ?_, fun b hb => ?_⟩
  · have hlt := h a b ha hb hr
    have gen : ∀ l : List Nat, a ∈ l → (l.filter fun x => decide (f x < f a)).length < (l.filter fun x => decide (f x < f b)).length := by
      intro l
      induction l with
      | nil => intro hm; cases hm
      | cons y l ih =>
        intro hm
        have le : ∀ l : List Nat, (l.filter fun x => decide (f x < f a)).length ≤ (l.filter fun x => decide (f x < f b)).length := by
          intro l
          induction l with
          | nil => exact Nat.le_refl _
          | cons z l ih2 =>
            rw [List.filter_cons, List.filter_cons]
            by_cases hz : f z < f a
            · rw [if_pos (decide_eq_true hz), if_pos (decide_eq_true (Nat.lt_trans hz hlt))]
              simpa using ih2
            · rw [if_neg (by simpa using hz)]
              split
              · exact Nat.le_succ_of_le ih2
              · exact ih2
        rw [List.filter_cons, List.filter_cons]
        rcases List.mem_cons.1 hm with e | hm
        · subst e
          rw [if_neg (by simp), if_pos (decide_eq_true hlt)]
          exact Nat.lt_succ_of_le (le l)
        · have i := ih hm
          by_cases hz : f y < f a
          · rw [if_pos (decide_eq_true hz), if_pos (decide_eq_true (Nat.lt_trans hz hlt))]
            simpa using i
          · rw [if_neg (by simpa using hz)]
            split
            · exact Nat.lt_succ_of_lt i
            · exact i
    exact gen (List.range n) (List.mem_range.2 ha)
  · have gen : ∀ l : List Nat, b ∈ l → (l.filter fun x => decide (f x < f b)).length < l.length := by
      intro l
      induction l with
      | nil => intro hm; cases hm
      | cons y l ih =>
        intro hm
        rw [List.filter_cons]
        rcases List.mem_cons.1 hm with e | hm
        · subst e
          rw [if_neg (by simp)]
          exact Nat.lt_succ_of_le (List.length_filter_le _ _)
        · split
          · exact Nat.succ_lt_succ (ih hm)
          · exact Nat.lt_succ_of_lt (ih hm)
    have := gen (List.range n) (List.mem_range.2 hb)
    rwa [List.length_range] at this
theorem heavy_cong {n : Nat} {R S : Nat → Nat → Bool} (h : EqR n R S) {w v : Nat → Int} (hw : ∀ a, a < n → w a = v a) : ∀ k b, b < n → heavy n R w k b = heavy n S v k b := by
  intro k
  induction k with
  | zero => intro b _; rfl
  | succ k ih =>
    intro b hb
    show maxR _ _ n + w b = maxR _ _ n + v b
    rw [hw b hb]
    congr 1
    have step : ∀ m, m ≤ n → maxR (fun a => R a b) (heavy n R w k) m = maxR (fun a => S a b) (heavy n S v k) m := by
      intro m
      induction m with
      | zero => intro _; rfl
      | succ m im =>
        intro hm
        show (if R m b = true then _ else _) = if S m b = true then _ else _
        rw [h m b (by omega) hb, im (by omega), ih m (by omega)]
    exact step n (Nat.le_refl _)
theorem topR_cong {f g : Nat → Int} {n : Nat} (h : ∀ a, a < n → f a = g a) : topR f n = topR g n := maxR_congr n fun a ha _ => h a ha
theorem heavyN_cong {n : Nat} {R S : Nat → Nat → Bool} (h : EqR n R S) {w v : Nat → Int} (hw : ∀ a, a < n → w a = v a) {b : Nat} (hb : b < n) : heavyN n R w b = heavyN n S v b := heavy_cong h hw n b hb
end Go.Proofs.Ytdhnjecbdclmaaa
end
