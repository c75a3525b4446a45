/- Plain: walls, their ends, points and rooms are counted. -/
import Derived.Test.YtdhnjecbdclmaaaKFourDM
namespace Go.Proofs.Ytdhnjecbdclmaaa
open Go.RowKit Go.Shelf Go.Proofs.YtdhnjecbdclmaaaW.PrintWords Go.Proofs.YtdhnjecbdclmaaaW.PrintMore
set_option linter.unusedVariables false
set_option linter.unusedSimpArgs false

/-- Upright and level walls, and their ends at the outline. -/
def upN (cl : Nat → Nat → Int) (h wd : Nat) : Nat := sumTo (fun x => (runs (dV cl (1 + x)) none 0 h).length) (wd - 1)
def lvN (cl : Nat → Nat → Int) (h wd : Nat) : Nat := sumTo (fun y => (runs (dH cl (1 + y)) none 0 wd).length) (h - 1)
def endN (cl : Nat → Nat → Int) (h wd : Nat) : Nat := sumTo (fun x => endsRun h (runs (dV cl (1 + x)) none 0 h)) (wd - 1) + sumTo (fun y => endsRun wd (runs (dH cl (1 + y)) none 0 wd)) (h - 1)
theorem sumTo_mul (f : Nat → Nat) (c : Nat) : ∀ n, sumTo (fun k => c * f k) n = c * sumTo f n := by
  intro n
  induction n with
  | zero => rfl
  | succ n ih => unfold sumTo; rw [ih, Nat.mul_add]
/-- Walls end where three rooms meet, or at the outline. -/
theorem tees_law {cl : Nat → Nat → Int} {boxes : List Box} {h wd : Nat} (f : Flat cl boxes h wd) : allPts cl wd 3 1 (h - 1) + endN cl h wd = 2 * (upN cl h wd + lvN cl h wd) := by
  have hh := f.high.1
  have hw := f.wide.1
  have e1 : 2 * upN cl h wd = sumTo (fun x => sumTo (fun y => x2 (dV cl (1 + x) y) (dV cl (1 + x) (1 + y))) (h - 1)) (wd - 1) + sumTo (fun x => endsRun h (runs (dV cl (1 + x)) none 0 h)) (wd - 1) := by
    unfold upN
    rw [← sumTo_mul, ← sumTo_plus]
    exact sumTo_same fun x _ => runs_twice _ hh
  have e2 : 2 * lvN cl h wd = sumTo (fun y => sumTo (fun x => x2 (dH cl (1 + y) x) (dH cl (1 + y) (1 + x))) (wd - 1)) (h - 1) + sumTo (fun y => endsRun wd (runs (dH cl (1 + y)) none 0 wd)) (h - 1) := by
    unfold lvN
    rw [← sumTo_mul, ← sumTo_plus]
    exact sumTo_same fun y _ => runs_twice _ hw
  have e3 : allPts cl wd 3 1 (h - 1) = sumTo (fun x => sumTo (fun y => x2 (dV cl (1 + x) y) (dV cl (1 + x) (1 + y))) (h - 1)) (wd - 1) + sumTo (fun y => sumTo (fun x => x2 (dH cl (1 + y) x) (dH cl (1 + y) (1 + x))) (wd - 1)) (h - 1) := by
    rw [allPts_sum, sumTo_swap (fun x y => x2 (dV cl (1 + x) y) (dV cl (1 + x) (1 + y))), ← sumTo_plus]
    refine sumTo_same fun y hy => ?_
    rw [← sumTo_plus]
    refine sumTo_same fun x hx => ?_
    rw [tee_pt f (show 1 ≤ 1 + y ∧ 1 + y < h by omega) (show 1 ≤ 1 + x ∧ 1 + x < wd by omega), show 1 + y - 1 = y by omega, show 1 + x - 1 = x by omega]
  unfold endN
  omega
theorem sumTo_only {P : Nat → Prop} [DecidablePred P] {k0 : Nat} (h : ∀ k, P k → k = k0) : ∀ n, sumTo (fun k => if P k then 1 else 0) n = if k0 < n ∧ P k0 then 1 else 0 := by
  intro n
  induction n with
  | zero => rw [if_neg (by omega)]; rfl
  | succ n ih =>
    unfold sumTo
    rw [ih]
    by_cases hn : P n
    · have := h n hn
      subst this
      rw [if_neg (by omega), if_pos hn, if_pos ⟨by omega, hn⟩]
    · rw [if_neg hn]
      by_cases hk : k0 < n ∧ P k0
      · rw [if_pos hk, if_pos ⟨by omega, hk.2⟩]
      · rw [if_neg hk, if_neg ?_]
        rintro ⟨a, b⟩
        exact hk ⟨by
          rcases Nat.lt_or_ge k0 n with h1 | h1
          · exact h1
          · have : k0 = n := by omega
            subst this; exact absurd b hn, b⟩
def cornA (boxes : List Box) (k : Nat) : Nat := (boxes.getD k (0, 0, 0, 0)).1.toNat
def cornB (boxes : List Box) (k : Nat) : Nat := (boxes.getD k (0, 0, 0, 0)).2.1.toNat
/-- Is a cell its room's first one? -/
def corner (cl : Nat → Nat → Int) (i j : Nat) : Nat := b1 ((decide (i = 0) || dH cl i j) && (decide (j = 0) || dV cl j i))
theorem corn_at {cl : Nat → Nat → Int} {boxes : List Box} {h wd : Nat} (f : Flat cl boxes h wd) {k : Nat} (hk : k < boxes.length) : ∃ c d : Nat, 1 ≤ c ∧ 1 ≤ d ∧ cornA boxes k + c ≤ h ∧ cornB boxes k + d ≤ wd ∧ ∀ i j, i < h → j < wd → (cl i j = (k : Int) ↔ (cornA boxes k ≤ i ∧ i < cornA boxes k + c) ∧ (cornB boxes k ≤ j ∧ j < cornB boxes k + d)) := by
  obtain ⟨a, b, c, d, e, h1, h2, h3, h4, h5⟩ := f.box k hk
  have ea : cornA boxes k = a := by unfold cornA; rw [List.getD_eq_getElem?_getD, List.getElem?_eq_getElem hk]; show boxes[k].1.toNat = a; rw [e]; rfl
  have eb : cornB boxes k = b := by unfold cornB; rw [List.getD_eq_getElem?_getD, List.getElem?_eq_getElem hk]; show boxes[k].2.1.toNat = b; rw [e]; rfl
  rw [ea, eb]
  exact ⟨c, d, h1, h2, h3, h4, h5⟩
theorem corner_sum {cl : Nat → Nat → Int} {boxes : List Box} {h wd : Nat} (f : Flat cl boxes h wd) {i j : Nat} (hi : i < h) (hj : j < wd) : corner cl i j = sumTo (fun k => if cornA boxes k = i ∧ cornB boxes k = j ∧ k < boxes.length then 1 else 0) boxes.length := by
  obtain ⟨k0, hk0, e0⟩ := f.num i j hi hj
  obtain ⟨c, d, hc, hd, hac, hbd, hb⟩ := corn_at f hk0
  rw [sumTo_only (P := fun k => cornA boxes k = i ∧ cornB boxes k = j ∧ k < boxes.length) (k0 := k0)]
  · obtain ⟨h1, h2⟩ := (hb i j hi hj).1 e0
    have key : ((decide (i = 0) || dH cl i j) && (decide (j = 0) || dV cl j i)) = decide (cornA boxes k0 = i ∧ cornB boxes k0 = j) := by
      rw [Bool.eq_iff_iff]
      simp only [Bool.and_eq_true, Bool.or_eq_true, decide_eq_true_eq]
      constructor
      · rintro ⟨g1, g2⟩
        constructor
        · rcases g1 with g1 | g1
          · omega
          · apply Classical.byContradiction
            intro hne
            have := (hb (i - 1) j (by omega) hj).2 (by omega)
            unfold dH at g1
            rw [this, e0] at g1
            simp at g1
        · rcases g2 with g2 | g2
          · omega
          · apply Classical.byContradiction
            intro hne
            have := (hb i (j - 1) hi (by omega)).2 (by omega)
            unfold dV at g2
            rw [this, e0] at g2
            simp at g2
      · rintro ⟨g1, g2⟩
        constructor
        · by_cases i0 : i = 0
          · exact .inl i0
          · refine .inr ?_
            unfold dH
            rw [bne_iff_ne, e0]
            intro e
            have := (hb (i - 1) j (by omega) hj).1 e
            omega
        · by_cases j0 : j = 0
          · exact .inl j0
          · refine .inr ?_
            unfold dV
            rw [bne_iff_ne, e0]
            intro e
            have := (hb i (j - 1) hi (by omega)).1 e
            omega
    unfold corner
    rw [key]
    by_cases g : cornA boxes k0 = i ∧ cornB boxes k0 = j
    · rw [if_pos ⟨hk0, g.1, g.2, hk0⟩, decide_eq_true g]; rfl
    · rw [if_neg (fun e => g ⟨e.2.1, e.2.2.1⟩), decide_eq_false g]; rfl
  · rintro k ⟨ka, kb, kl⟩
    obtain ⟨c', d', hc', hd', hac', hbd', hb'⟩ := corn_at f kl
    have := (hb' i j hi hj).2 (by omega)
    omega
theorem rooms_corners {cl : Nat → Nat → Int} {boxes : List Box} {h wd : Nat} (f : Flat cl boxes h wd) : boxes.length = sumTo (fun i => sumTo (fun j => corner cl i j) wd) h := by
  have e1 : sumTo (fun i => sumTo (fun j => corner cl i j) wd) h = sumTo (fun i => sumTo (fun k => sumTo (fun j => if cornA boxes k = i ∧ cornB boxes k = j ∧ k < boxes.length then 1 else 0) wd) boxes.length) h := by
    refine sumTo_same fun i hi => ?_
    rw [← sumTo_swap (fun j k => if cornA boxes k = i ∧ cornB boxes k = j ∧ k < boxes.length then 1 else 0)]
    exact sumTo_same fun j hj => corner_sum f hi hj
  rw [e1, sumTo_swap]
  have e2 : ∀ k, k < boxes.length → sumTo (fun i => sumTo (fun j => if cornA boxes k = i ∧ cornB boxes k = j ∧ k < boxes.length then 1 else 0) wd) h = 1 := fun k hk => by
    obtain ⟨c, d, hc, hd, hac, hbd, _⟩ := corn_at f hk
    have e3 : ∀ i, sumTo (fun j => if cornA boxes k = i ∧ cornB boxes k = j ∧ k < boxes.length then 1 else 0) wd = if cornA boxes k = i then 1 else 0 := fun i => by
      rw [sumTo_only (P := fun j => cornA boxes k = i ∧ cornB boxes k = j ∧ k < boxes.length) (k0 := cornB boxes k) (fun j hj => hj.2.1.symm)]
      by_cases g : cornA boxes k = i
      · rw [if_pos ⟨by omega, g, rfl, hk⟩, if_pos g]
      · rw [if_neg (fun e => g e.2.1), if_neg g]
    rw [sumTo_same fun i _ => e3 i, sumTo_only (P := fun i => cornA boxes k = i) (k0 := cornA boxes k) (fun i hi => hi.symm), if_pos ⟨by omega, rfl⟩]
  rw [sumTo_same e2]
  clear e1 e2
  generalize boxes.length = n
  induction n with
  | zero => rfl
  | succ n ih => unfold sumTo; rw [← ih]
/-- Walls and crosses are one less than rooms. -/
theorem walls_law {cl : Nat → Nat → Int} {boxes : List Box} {h wd : Nat} (f : Flat cl boxes h wd) : boxes.length = upN cl h wd + lvN cl h wd + allPts cl wd 4 1 (h - 1) + 1 := by
  have hh := f.high.1
  have hw := f.wide.1
  obtain ⟨H, rfl⟩ : ∃ H, h = H + 1 := ⟨h - 1, by omega⟩
  obtain ⟨W, rfl⟩ : ∃ W, wd = W + 1 := ⟨wd - 1, by omega⟩
  rw [rooms_corners f, sumTo_head, sumTo_head]
  have c0 : corner cl 0 0 = 1 := rfl
  have c1 : sumTo (fun k => corner cl 0 (k + 1)) W = sumTo (fun x => b1 (dV cl (1 + x) 0)) W := sumTo_same fun x _ => by
    unfold corner
    rw [decide_eq_true rfl, decide_eq_false (Nat.succ_ne_zero x), Bool.true_or, Bool.true_and, Bool.false_or, Nat.add_comm x 1]
  have c2 : sumTo (fun k => sumTo (fun j => corner cl (k + 1) j) (W + 1)) H = sumTo (fun y => b1 (dH cl (1 + y) 0)) H + sumTo (fun y => sumTo (fun x => b1 (dH cl (1 + y) (1 + x) && dV cl (1 + x) (1 + y))) W) H := by
    rw [← sumTo_plus]
    refine sumTo_same fun y _ => ?_
    rw [sumTo_head]
    congr 1
    · unfold corner
      rw [decide_eq_true rfl, decide_eq_false (Nat.succ_ne_zero y), Bool.true_or, Bool.and_true, Bool.false_or, Nat.add_comm y 1]
    · refine sumTo_same fun x _ => ?_
      unfold corner
      rw [decide_eq_false (Nat.succ_ne_zero x), decide_eq_false (Nat.succ_ne_zero y), Bool.false_or, Bool.false_or, Nat.add_comm x 1, Nat.add_comm y 1]
  have c3 : sumTo (fun y => sumTo (fun x => b1 (dH cl (1 + y) (1 + x) && dV cl (1 + x) (1 + y))) W) H = sumTo (fun y => sumTo (fun x => b1 (dV cl (1 + x) (1 + y) && !dV cl (1 + x) y)) W) H + sumTo (fun y => sumTo (fun x => b1 (dH cl (1 + y) (1 + x) && !dH cl (1 + y) x)) W) H + allPts cl (W + 1) 4 1 H := by
    rw [allPts_sum, ← sumTo_plus, ← sumTo_plus]
    refine sumTo_same fun y hy => ?_
    rw [show W + 1 - 1 = W by omega, ← sumTo_plus, ← sumTo_plus]
    refine sumTo_same fun x hx => ?_
    have := corner_pt f (show 1 ≤ 1 + y ∧ 1 + y < H + 1 by omega) (show 1 ≤ 1 + x ∧ 1 + x < W + 1 by omega)
    rwa [show 1 + y - 1 = y by omega, show 1 + x - 1 = x by omega] at this
  have e1 : upN cl (H + 1) (W + 1) = sumTo (fun x => b1 (dV cl (1 + x) 0)) W + sumTo (fun x => sumTo (fun y => b1 (dV cl (1 + x) (1 + y) && !dV cl (1 + x) y)) H) W := by
    unfold upN
    rw [show W + 1 - 1 = W by omega, ← sumTo_plus]
    refine sumTo_same fun x _ => ?_
    rw [runs_starts _ hh, show H + 1 - 1 = H by omega]
  have e2 : lvN cl (H + 1) (W + 1) = sumTo (fun y => b1 (dH cl (1 + y) 0)) H + sumTo (fun y => sumTo (fun x => b1 (dH cl (1 + y) (1 + x) && !dH cl (1 + y) x)) W) H := by
    unfold lvN
    rw [show H + 1 - 1 = H by omega, ← sumTo_plus]
    refine sumTo_same fun y _ => ?_
    rw [runs_starts _ hw, show W + 1 - 1 = W by omega]
  have e3 := sumTo_swap (fun x y => b1 (dV cl (1 + x) (1 + y) && !dV cl (1 + x) y)) H W
  rw [c0, c1, c2, c3, e1, e2, e3, show H + 1 - 1 = H by omega]
  omega
theorem runs_congr {df df' : Nat → Bool} : ∀ (d i : Nat) (o : Option Nat), (∀ k, i ≤ k → k < i + d → df k = df' k) → runs df o i d = runs df' o i d := by
  intro d
  induction d with
  | zero => intro i o h; cases o <;> rfl
  | succ d ih =>
    intro i o h
    have h0 := h i (Nat.le_refl _) (by omega)
    have hr := fun o => ih (i + 1) o fun k a b => h k (by omega) (by omega)
    cases o with
    | none => unfold runs; rw [h0, hr, hr]
    | some f => unfold runs; rw [h0, hr, hr]
theorem bne_of_iff {a b c d : Int} (h : a = b ↔ c = d) : (a != b) = (c != d) := by
  rw [Bool.eq_iff_iff, bne_iff_ne, bne_iff_ne]
  exact not_congr h
/-- Walls of a plan whose rows and columns are exchanged. -/
theorem trans_walls {cl cl' : Nat → Nat → Int} {h wd : Nat} (hs : ∀ i j i' j', i < wd → j < h → i' < wd → j' < h → (cl' i j = cl' i' j' ↔ cl j i = cl j' i')) : upN cl' wd h = lvN cl h wd ∧ lvN cl' wd h = upN cl h wd := by
  constructor
  · refine sumTo_same fun x hx => ?_
    rw [runs_congr (df' := dH cl (1 + x)) wd 0 none fun k _ hk => ?_]
    unfold dV dH
    exact bne_of_iff (hs _ _ _ _ (by omega) (by omega) (by omega) (by omega))
  · refine sumTo_same fun y hy => ?_
    rw [runs_congr (df' := dV cl (1 + y)) h 0 none fun k _ hk => ?_]
    unfold dV dH
    exact bne_of_iff (hs _ _ _ _ (by omega) (by omega) (by omega) (by omega))
/-- The reference's upright walls are as many. -/
theorem upL_count (G : Nat → Nat → Int) (h : Nat) : ∀ d k, (upL G h k d).length = sumTo (fun x => (runs (fun r => G r (k + x - 1) != G r (k + x)) none 0 h).length) d := by
  intro d
  induction d with
  | zero => intro k; rfl
  | succ d ih =>
    intro k
    rw [sumTo_head]
    unfold upL
    rw [List.length_append, ih (k + 1)]
    have e := runs_col G h k h 0 none (by omega) (fun f e => by cases e)
    rw [show fromI none = -1 from rfl] at e
    rw [e, List.length_map]
    congr 1
    exact sumTo_same fun x _ => by rw [show k + 1 + x = k + (x + 1) by omega]
theorem up_count (cl : Nat → Nat → Int) (h wd : Nat) : (upL (gridOf cl 0 0) h 1 (wd - 1)).length = upN cl h wd := by
  rw [upL_count]
  refine sumTo_same fun x _ => ?_
  rw [runs_congr (df' := dV cl (1 + x)) h 0 none fun k _ _ => ?_]
  unfold gridOf dV
  rw [Nat.zero_add, Nat.zero_add, Nat.zero_add]
  exact bne_of_iff (by omega)
theorem lv_count (cl : Nat → Nat → Int) (h wd : Nat) : (upL (fun i j => gridOf cl 0 0 j i) wd 1 (h - 1)).length = lvN cl h wd := by
  rw [upL_count]
  refine sumTo_same fun x _ => ?_
  rw [runs_congr (df' := dH cl (1 + x)) wd 0 none fun k _ _ => ?_]
  unfold gridOf dH
  rw [Nat.zero_add, Nat.zero_add, Nat.zero_add]
  exact bne_of_iff (by omega)
end Go.Proofs.Ytdhnjecbdclmaaa
