/- Plain: in a plan without crosses each two rooms lie left of or above one another. No program in sight. -/
import Derived.Lib.SlicesCompact
namespace Go.Proofs.Ytdhnjecbdclmaaa
set_option linter.unusedVariables false
set_option linter.unusedSimpArgs false
def Rects (cl : Nat → Nat → Int) (h w : Nat) : Prop := ∀ i j, i < h → j < w → ∃ t d l e, (t ≤ i ∧ i < d ∧ d ≤ h) ∧ (l ≤ j ∧ j < e ∧ e ≤ w) ∧ ∀ i' j', i' < h → j' < w → (cl i' j' = cl i j ↔ (t ≤ i' ∧ i' < d) ∧ l ≤ j' ∧ j' < e)
def NoCross (cl : Nat → Nat → Int) (h w : Nat) : Prop := ∀ i j, 1 ≤ i → i < h → 1 ≤ j → j < w → ¬ (cl (i - 1) (j - 1) ≠ cl (i - 1) j ∧ cl (i - 1) (j - 1) ≠ cl i (j - 1) ∧ cl (i - 1) (j - 1) ≠ cl i j ∧ cl (i - 1) j ≠ cl i (j - 1) ∧ cl (i - 1) j ≠ cl i j ∧ cl i (j - 1) ≠ cl i j)
def flip (cl : Nat → Nat → Int) : Nat → Nat → Int := fun i j => cl j i
theorem Rects.flip {cl : Nat → Nat → Int} {h w : Nat} (r : Rects cl h w) : Rects (flip cl) w h := fun i j hi hj => by
  obtain ⟨t, d, l, e, h1, h2, h3⟩ := r j i hj hi
  refine ⟨l, e, t, d, h2, h1, fun i' j' hi' hj' => ?_⟩
  have := h3 j' i' hj' hi'
  unfold Ytdhnjecbdclmaaa.flip
  rw [this]
  exact And.comm
theorem NoCross.flip {cl : Nat → Nat → Int} {h w : Nat} (r : NoCross cl h w) : NoCross (flip cl) w h := fun i j h1 h2 h3 h4 hc => by
  obtain ⟨c1, c2, c3, c4, c5, c6⟩ := hc
  exact r j i h3 h4 h1 h2 ⟨c2, c1, c3, fun e => c4 e.symm, c6, c5⟩
def LSeg (cl : Nat → Nat → Int) (h w : Nat) (u v : Int) : Prop := ∃ x i j, 1 ≤ x ∧ x < w ∧ i < h ∧ j < h ∧ (∀ r, (i ≤ r ∧ r ≤ j) ∨ (j ≤ r ∧ r ≤ i) → cl r (x - 1) ≠ cl r x) ∧ cl i (x - 1) = u ∧ cl j x = v
def ASeg (cl : Nat → Nat → Int) (h w : Nat) (u v : Int) : Prop := LSeg (flip cl) w h u v
section
variable {cl : Nat → Nat → Int} {h w : Nat} {a : Int} {SR SD : Int → Prop}
theorem row_chain (hR : ∀ u v, (u = a ∨ SR u) → LSeg cl h w u v → SR v) {y : Nat} (hy : y < h) {x : Nat} (h0 : SR (cl y x)) : ∀ d, x + d < w → SR (cl y (x + d)) := by
  intro d
  induction d with
  | zero => intro _; exact h0
  | succ d ih =>
    intro hd
    have hp := ih (by omega)
    by_cases e : cl y (x + d) = cl y (x + (d + 1))
    · rw [← e]; exact hp
    · refine hR _ _ (.inr hp) ⟨x + (d + 1), y, y, by omega, hd, hy, hy, fun r hr => ?_, by rw [show x + (d + 1) - 1 = x + d by omega], rfl⟩
      obtain rfl : r = y := by omega
      rw [show x + (d + 1) - 1 = x + d by omega]
      exact e
theorem row_on_ (hR : ∀ u v, (u = a ∨ SR u) → LSeg cl h w u v → SR v) {y : Nat} (hy : y < h) {x x' : Nat} (h0 : SR (cl y x)) (hx : x ≤ x') (hw : x' < w) : SR (cl y x') := by
  have := row_chain hR hy h0 (x' - x) (by omega)
  rwa [show x + (x' - x) = x' by omega] at this
theorem col_on_ (hD : ∀ u v, (u = a ∨ SD u) → ASeg cl h w u v → SD v) {x : Nat} (hx : x < w) {y y' : Nat} (h0 : SD (cl y x)) (hy : y ≤ y') (hh : y' < h) : SD (cl y' x) :=
  row_on_ (cl := flip cl) (SR := SD) hD hx h0 hy hh
def StH (cl : Nat → Nat → Int) (a : Int) (SR SD : Int → Prop) (y x : Nat) : Prop := (cl (y - 1) (x - 1) = a ∨ SR (cl (y - 1) (x - 1))) ∧ ∃ x0, x0 < x ∧ (∀ j, x0 ≤ j → j < x → cl (y - 1) j ≠ cl y j) ∧ (cl (y - 1) x0 = a ∨ SD (cl (y - 1) x0))
def StV (cl : Nat → Nat → Int) (a : Int) (SR SD : Int → Prop) (y x : Nat) : Prop := StH (flip cl) a SD SR x y
theorem step_H (hr : Rects cl h w) (hc : NoCross cl h w) (hR : ∀ u v, (u = a ∨ SR u) → LSeg cl h w u v → SR v) (hD : ∀ u v, (u = a ∨ SD u) → ASeg cl h w u v → SD v) {y x : Nat} (y1 : 1 ≤ y) (y2 : y < h) (x1 : 1 ≤ x) (x2 : x < w) (st : StH cl a SR SD y x) (ne : SR (cl (y - 1) x)) (sw : SD (cl y (x - 1))) :
    (∃ y', y < y' ∧ y' ≤ h ∧ (∀ i j, y ≤ i → i < y' → x ≤ j → j < w → SR (cl i j)) ∧ (y' < h → StV cl a SR SD y' x ∧ SR (cl (y' - 1) x) ∧ SD (cl y' (x - 1)))) ∨
    (∃ x', x < x' ∧ x' ≤ w ∧ (∀ i j, y ≤ i → i < h → x ≤ j → j < x' → SD (cl i j)) ∧ (x' < w → StH cl a SR SD y x' ∧ SR (cl (y - 1) x') ∧ SD (cl y (x' - 1)))) := by
  obtain ⟨nw, x0, hx0, hwall, hup⟩ := st
  have wNW := hwall (x - 1) (by omega) (by omega)
  obtain ⟨t, d, l, e, b1, b2, hb⟩ := hr y x y2 x2
  have bNW := hb (y - 1) (x - 1) (by omega) (by omega)
  have bNE := hb (y - 1) x (by omega) (by omega)
  have bSW := hb y (x - 1) (by omega) (by omega)
  by_cases c1 : cl (y - 1) x = cl y x
  ·
    left
    have i1 := bNE.1 c1
    have nSW : cl y (x - 1) ≠ cl y x := fun e1 => by
      have i2 := bSW.1 e1
      exact wNW ((bNW.2 ⟨⟨by omega, by omega⟩, by omega, by omega⟩).trans e1.symm)
    have hl : l = x := by
      have : ¬ ((t ≤ y ∧ y < d) ∧ l ≤ x - 1 ∧ x - 1 < e) := fun h9 => nSW (bSW.2 h9)
      omega
    have hcell : ∀ i, y - 1 ≤ i → i < d → cl i x = cl y x := fun i h1 h2 => (hb i x (by omega) (by omega)).2 ⟨⟨by omega, by omega⟩, by omega, by omega⟩
    have hside : ∀ i, y - 1 ≤ i → i < d → cl i (x - 1) ≠ cl i x := fun i h1 h2 e1 => by
      have := (hb i (x - 1) (by omega) (by omega)).1 (e1.trans (hcell i h1 h2))
      omega
    refine ⟨d, by omega, by omega, fun i j h1 h2 h3 h4 => row_on_ hR (by omega) (x := x) (by rw [hcell i (by omega) h2, ← c1]; exact ne) h3 h4, fun hd => ⟨⟨?_, y - 1, by omega, fun i h1 h2 => hside i h1 h2, ?_⟩, ?_, ?_⟩⟩
    · exact .inr (col_on_ hD (by omega) (y := y) (y' := d - 1) sw (by omega) (by omega))
    · exact nw
    · show SR (cl (d - 1) x)
      rw [hcell (d - 1) (by omega) (by omega), ← c1]; exact ne
    · exact col_on_ hD (by omega) (y := y) (y' := d) sw (by omega) hd
  ·
    right
    have hsd : SD (cl y x) := by
      by_cases c2 : cl y (x - 1) = cl y x
      · rw [← c2]; exact sw
      · have hNW : cl (y - 1) (x - 1) = cl (y - 1) x := by
          refine Classical.byContradiction fun n1 => hc y x y1 y2 x1 x2 ⟨n1, wNW, fun e1 => ?_, fun e1 => ?_, c1, c2⟩
          · have i1 := bNW.1 e1
            exact c1 (bNE.2 ⟨⟨by omega, by omega⟩, by omega, by omega⟩)
          · obtain ⟨t2, d2, l2, e2, g1, g2, hb2⟩ := hr (y - 1) x (by omega) x2
            have k1 := (hb2 (y - 1) x (by omega) x2).1 rfl
            have k2 := (hb2 y (x - 1) y2 (by omega)).1 e1.symm
            exact n1 ((hb2 (y - 1) (x - 1) (by omega) (by omega)).2 ⟨⟨by omega, by omega⟩, by omega, by omega⟩)
        refine hD _ _ hup ⟨y, x0, x, y1, y2, by omega, x2, fun j hj => ?_, rfl, rfl⟩
        show cl (y - 1) j ≠ cl y j
        by_cases ej : j = x
        · rw [ej]; exact c1
        · exact hwall j (by omega) (by omega)
    have ht : t = y := by
      have : ¬ ((t ≤ y - 1 ∧ y - 1 < d) ∧ l ≤ x ∧ x < e) := fun h9 => c1 (bNE.2 h9)
      omega
    have hcell : ∀ j, x ≤ j → j < e → cl y j = cl y x := fun j h1 h2 => (hb y j y2 (by omega)).2 ⟨⟨by omega, by omega⟩, by omega, by omega⟩
    have hside : ∀ j, x ≤ j → j < e → cl (y - 1) j ≠ cl y j := fun j h1 h2 e1 => by
      have := (hb (y - 1) j (by omega) (by omega)).1 (e1.trans (hcell j h1 h2))
      omega
    refine ⟨e, by omega, by omega, fun i j h1 h2 h3 h4 => col_on_ hD (by omega) (y := y) (by rw [hcell j h3 h4]; exact hsd) h1 h2, fun he => ⟨⟨?_, x0, by omega, fun j h1 h2 => ?_, hup⟩, ?_, ?_⟩⟩
    · exact .inr (row_on_ hR (by omega) (x := x) (x' := e - 1) ne (by omega) (by omega))
    · by_cases hj : j < x
      · exact hwall j h1 hj
      · exact hside j (by omega) h2
    · exact row_on_ hR (by omega) (x := x) (x' := e) ne (by omega) he
    · rw [hcell (e - 1) (by omega) (by omega)]; exact hsd
end
theorem se_all : ∀ (n : Nat) {cl : Nat → Nat → Int} {h w : Nat} {a : Int} {SR SD : Int → Prop}, Rects cl h w → NoCross cl h w → (∀ u v, (u = a ∨ SR u) → LSeg cl h w u v → SR v) → (∀ u v, (u = a ∨ SD u) → ASeg cl h w u v → SD v) →
    ∀ y x, (h - y) + (w - x) < n → 1 ≤ y → y < h → 1 ≤ x → x < w → StH cl a SR SD y x → SR (cl (y - 1) x) → SD (cl y (x - 1)) → ∀ i j, y ≤ i → i < h → x ≤ j → j < w → SR (cl i j) ∨ SD (cl i j) := by
  intro n
  induction n with
  | zero => intro cl h w a SR SD _ _ _ _ y x h0; omega
  | succ n ih =>
    intro cl h w a SR SD hr hc hR hD y x hn y1 y2 x1 x2 st ne sw i j i1 i2 j1 j2
    rcases step_H hr hc hR hD y1 y2 x1 x2 st ne sw with ⟨y', g1, g2, hcov, hnext⟩ | ⟨x', g1, g2, hcov, hnext⟩
    · by_cases hi : i < y'
      · exact .inl (hcov i j i1 hi j1 j2)
      · obtain ⟨s1, s2, s3⟩ := hnext (by omega)
        exact (ih (cl := flip cl) hr.flip hc.flip hD hR x y' (by omega) x1 x2 (by omega) (by omega) s1 s3 s2 j i j1 j2 (by omega) i2).symm
    · by_cases hj : j < x'
      · exact .inr (hcov i j i1 i2 j1 hj)
      · obtain ⟨s1, s2, s3⟩ := hnext (by omega)
        exact ih hr hc hR hD y x' (by omega) y1 y2 (by omega) (by omega) s1 s2 s3 i j i1 i2 (by omega) j2
theorem se_room {cl : Nat → Nat → Int} {h w : Nat} {a : Int} {SR SD : Int → Prop} (hr : Rects cl h w) (hc : NoCross cl h w) (hR : ∀ u v, (u = a ∨ SR u) → LSeg cl h w u v → SR v) (hD : ∀ u v, (u = a ∨ SD u) → ASeg cl h w u v → SD v)
    {t d l e : Nat} (h1 : t < d ∧ d ≤ h) (h2 : l < e ∧ e ≤ w) (hb : ∀ i j, i < h → j < w → (cl i j = a ↔ (t ≤ i ∧ i < d) ∧ l ≤ j ∧ j < e)) {i j : Nat} (hi : d ≤ i ∧ i < h) (hj : e ≤ j ∧ j < w) : SR (cl i j) ∨ SD (cl i j) := by
  have hin : cl (d - 1) (e - 1) = a := (hb _ _ (by omega) (by omega)).2 ⟨⟨by omega, by omega⟩, by omega, by omega⟩
  have hne : cl (d - 1) e ≠ a := fun x => by have := (hb _ _ (by omega) (by omega)).1 x; omega
  have hsw : cl d (e - 1) ≠ a := fun x => by have := (hb _ _ (by omega) (by omega)).1 x; omega
  refine se_all _ hr hc hR hD d e (Nat.lt_succ_self _) (by omega) (by omega) (by omega) (by omega) ⟨.inl hin, e - 1, by omega, fun j' g1 g2 => ?_, .inl hin⟩ ?_ ?_ i j hi.1 hi.2 hj.1 hj.2
  · obtain rfl : j' = e - 1 := by omega
    rw [hin]; exact fun x => hsw x.symm
  · refine hR a _ (.inl rfl) ⟨e, d - 1, d - 1, by omega, by omega, by omega, by omega, fun r hr' => ?_, hin, rfl⟩
    obtain rfl : r = d - 1 := by omega
    rw [hin]; exact fun x => hne x.symm
  · refine hD a _ (.inl rfl) ⟨d, e - 1, e - 1, by omega, by omega, by omega, by omega, fun r hr' => ?_, hin, rfl⟩
    obtain rfl : r = e - 1 := by omega
    show cl (d - 1) (e - 1) ≠ cl d (e - 1)
    rw [hin]; exact fun x => hsw x.symm
def upside (cl : Nat → Nat → Int) (h : Nat) : Nat → Nat → Int := fun i j => cl (h - 1 - i) j
theorem Rects.upside {cl : Nat → Nat → Int} {h w : Nat} (r : Rects cl h w) : Rects (upside cl h) h w := fun i j hi hj => by
  obtain ⟨t, d, l, e, h1, h2, h3⟩ := r (h - 1 - i) j (by omega) hj
  refine ⟨h - d, h - t, l, e, by omega, h2, fun i' j' hi' hj' => ?_⟩
  have := h3 (h - 1 - i') j' (by omega) hj'
  unfold Ytdhnjecbdclmaaa.upside
  rw [this]
  omega
theorem NoCross.upside {cl : Nat → Nat → Int} {h w : Nat} (r : NoCross cl h w) : NoCross (upside cl h) h w := fun i j h1 h2 h3 h4 hc => by
  obtain ⟨c1, c2, c3, c4, c5, c6⟩ := hc
  unfold Ytdhnjecbdclmaaa.upside at c1 c2 c3 c4 c5 c6
  have e1 : h - 1 - (i - 1) = h - i := by omega
  have e2 : h - 1 - i = h - i - 1 := by omega
  rw [e1] at c1 c2 c3 c4 c5
  rw [e2] at c2 c3 c4 c5 c6
  exact r (h - i) j (by omega) (by omega) h3 h4 ⟨c6, fun e => c2 e.symm, fun e => c4 e.symm, fun e => c3 e.symm, fun e => c5 e.symm, c1⟩
theorem LSeg.upside {cl : Nat → Nat → Int} {h w : Nat} {u v : Int} (s : LSeg (upside cl h) h w u v) : LSeg cl h w u v := by
  obtain ⟨x, i, j, h1, h2, h3, h4, h5, h6, h7⟩ := s
  refine ⟨x, h - 1 - i, h - 1 - j, h1, h2, by omega, by omega, fun r hr => ?_, h6, h7⟩
  have := h5 (h - 1 - r) (by omega)
  unfold Ytdhnjecbdclmaaa.upside at this
  rwa [show h - 1 - (h - 1 - r) = r by omega] at this
theorem ASeg.upside {cl : Nat → Nat → Int} {h w : Nat} {u v : Int} (s : ASeg (upside cl h) h w u v) : ASeg cl h w v u := by
  obtain ⟨y, i, j, h1, h2, h3, h4, h5, h6, h7⟩ := s
  unfold Ytdhnjecbdclmaaa.flip Ytdhnjecbdclmaaa.upside at h5 h6 h7
  have e1 : h - 1 - (y - 1) = h - y := by omega
  have e2 : h - 1 - y = h - y - 1 := by omega
  rw [e1] at h6
  rw [e2] at h7
  refine ⟨h - y, j, i, by omega, by omega, h4, h3, fun r hr => ?_, h7, h6⟩
  have := h5 r (by omega)
  rw [e1, e2] at this
  exact fun x => this x.symm
theorem each_two {cl : Nat → Nat → Int} {h w : Nat} (hr : Rects cl h w) (hc : NoCross cl h w) {L A : Int → Int → Prop} (hL : ∀ u v, LSeg cl h w u v → L u v) (hL2 : ∀ u v z, L u v → LSeg cl h w v z → L u z) (hL3 : ∀ u v z, LSeg cl h w u v → L v z → L u z)
    (hA : ∀ u v, ASeg cl h w u v → A u v) (hA2 : ∀ u v z, A u v → ASeg cl h w v z → A u z) (hA3 : ∀ u v z, ASeg cl h w u v → A v z → A u z) {i j i' j' : Nat} (hi : i < h) (hj : j < w) (hi' : i' < h) (hj' : j' < w) (hne : cl i j ≠ cl i' j') :
    L (cl i j) (cl i' j') ∨ L (cl i' j') (cl i j) ∨ A (cl i j) (cl i' j') ∨ A (cl i' j') (cl i j) := by
  obtain ⟨t, d, l, e, b1, b2, hb⟩ := hr i j hi hj
  obtain ⟨t', d', l', e', b1', b2', hb'⟩ := hr i' j' hi' hj'
  have cell : ∀ y x, t ≤ y → y < d → l ≤ x → x < e → cl y x = cl i j := fun y x g1 g2 g3 g4 => (hb y x (by omega) (by omega)).2 ⟨⟨g1, g2⟩, g3, g4⟩
  have cell' : ∀ y x, t' ≤ y → y < d' → l' ≤ x → x < e' → cl y x = cl i' j' := fun y x g1 g2 g3 g4 => (hb' y x (by omega) (by omega)).2 ⟨⟨g1, g2⟩, g3, g4⟩
  have disj : ¬ ((t < d' ∧ t' < d) ∧ l < e' ∧ l' < e) := fun g => by
    have g1 := cell (max t t') (max l l') (by omega) (by omega) (by omega) (by omega)
    have g2 := cell' (max t t') (max l l') (by omega) (by omega) (by omega) (by omega)
    exact hne (g1.symm.trans g2)
  have rowR : ∀ (P : Int → Prop) (u0 : Int), (∀ u v, (u = u0 ∨ P u) → LSeg cl h w u v → P v) → ∀ y x x', y < h → x < x' → x' < w → cl y x = u0 → cl y x' ≠ u0 → P (cl y x') := by
    intro P u0 hP y x x' hy hx hx' h0 h9
    have aux : ∀ k, x + k < w → cl y (x + k) = u0 ∨ P (cl y (x + k)) := by
      intro k
      induction k with
      | zero => intro _; exact .inl h0
      | succ k ih =>
        intro hk
        have hp := ih (by omega)
        by_cases e9 : cl y (x + k) = cl y (x + (k + 1))
        · rw [← e9]; exact hp
        · refine .inr (hP _ _ hp ⟨x + (k + 1), y, y, by omega, hk, hy, hy, fun r hr9 => ?_, by rw [show x + (k + 1) - 1 = x + k by omega], rfl⟩)
          obtain rfl : r = y := by omega
          rw [show x + (k + 1) - 1 = x + k by omega]
          exact e9
    have := aux (x' - x) (by omega)
    rw [show x + (x' - x) = x' by omega] at this
    exact this.resolve_left h9
  have colR : ∀ (P : Int → Prop) (u0 : Int), (∀ u v, (u = u0 ∨ P u) → ASeg cl h w u v → P v) → ∀ x y y', x < w → y < y' → y' < h → cl y x = u0 → cl y' x ≠ u0 → P (cl y' x) := by
    intro P u0 hP x y y' hx hy hy' h0 h9
    have aux : ∀ k, y + k < h → cl (y + k) x = u0 ∨ P (cl (y + k) x) := by
      intro k
      induction k with
      | zero => intro _; exact .inl h0
      | succ k ih =>
        intro hk
        have hp := ih (by omega)
        by_cases e9 : cl (y + k) x = cl (y + (k + 1)) x
        · rw [← e9]; exact hp
        · refine .inr (hP _ _ hp ⟨y + (k + 1), x, x, by omega, hk, hx, hx, fun r hr9 => ?_, by show cl (y + (k + 1) - 1) x = _; rw [show y + (k + 1) - 1 = y + k by omega], rfl⟩)
          obtain rfl : r = x := by omega
          show cl (y + (k + 1) - 1) r ≠ cl (y + (k + 1)) r
          rw [show y + (k + 1) - 1 = y + k by omega]
          exact e9
    have := aux (y' - y) (by omega)
    rw [show y + (y' - y) = y' by omega] at this
    exact this.resolve_left h9
  have stepL : ∀ u0 u v, (u = u0 ∨ L u0 u) → LSeg cl h w u v → L u0 v := fun u0 u v g s => by
    rcases g with rfl | g
    · exact hL _ _ s
    · exact hL2 _ _ _ g s
  have stepA : ∀ u0 u v, (u = u0 ∨ A u0 u) → ASeg cl h w u v → A u0 v := fun u0 u v g s => by
    rcases g with rfl | g
    · exact hA _ _ s
    · exact hA2 _ _ _ g s
  have stepA' : ∀ u0 u v, (u = u0 ∨ A u u0) → ASeg cl h w v u → A v u0 := fun u0 u v g s => by
    rcases g with rfl | g
    · exact hA _ _ s
    · exact hA3 _ _ _ s g
  by_cases ov : t < d' ∧ t' < d
  ·
    have ce := cell (max t t')
    have ce' := cell' (max t t')
    by_cases hlr : e ≤ l'
    · left
      have g1 := cell (max t t') (e - 1) (by omega) (by omega) (by omega) (by omega)
      have g2 := cell' (max t t') l' (by omega) (by omega) (by omega) (by omega)
      have := rowR (L (cl i j)) (cl i j) (stepL _) (max t t') (e - 1) l' (by omega) (by omega) (by omega) g1 (by rw [g2]; exact fun x => hne x.symm)
      rwa [g2] at this
    · right; left
      have g1 := cell' (max t t') (e' - 1) (by omega) (by omega) (by omega) (by omega)
      have g2 := cell (max t t') l (by omega) (by omega) (by omega) (by omega)
      have := rowR (L (cl i' j')) (cl i' j') (stepL _) (max t t') (e' - 1) l (by omega) (by omega) (by omega) g1 (by rw [g2]; exact hne)
      rwa [g2] at this
  · by_cases ovc : l < e' ∧ l' < e
    · by_cases hud : d ≤ t'
      · right; right; left
        have g1 := cell (d - 1) (max l l') (by omega) (by omega) (by omega) (by omega)
        have g2 := cell' t' (max l l') (by omega) (by omega) (by omega) (by omega)
        have := colR (A (cl i j)) (cl i j) (stepA _) (max l l') (d - 1) t' (by omega) (by omega) (by omega) g1 (by rw [g2]; exact fun x => hne x.symm)
        rwa [g2] at this
      · right; right; right
        have g1 := cell' (d' - 1) (max l l') (by omega) (by omega) (by omega) (by omega)
        have g2 := cell t (max l l') (by omega) (by omega) (by omega) (by omega)
        have := colR (A (cl i' j')) (cl i' j') (stepA _) (max l l') (d' - 1) t (by omega) (by omega) (by omega) g1 (by rw [g2]; exact hne)
        rwa [g2] at this
    ·
      by_cases hud : d ≤ t'
      · by_cases hlr : e ≤ l'
        · rcases se_room hr hc (stepL (cl i j)) (stepA (cl i j)) (t := t) (d := d) (l := l) (e := e) (by omega) (by omega) hb (i := i') (j := j') (by omega) (by omega) with g | g
          · exact .inl g
          · exact .inr (.inr (.inl g))
        ·
          have hbu : ∀ y x, y < h → x < w → (upside cl h y x = cl i' j' ↔ (h - d' ≤ y ∧ y < h - t') ∧ l' ≤ x ∧ x < e') := fun y x hy hx => by
            unfold upside
            rw [hb' (h - 1 - y) x (by omega) hx]; omega
          have := se_room hr.upside hc.upside (a := cl i' j') (SR := L (cl i' j')) (SD := fun u => A u (cl i' j')) (fun u v g s => stepL _ u v g s.upside) (fun u v g s => stepA' _ u v g s.upside) (t := h - d') (d := h - t') (l := l') (e := e') (by omega) (by omega) hbu (i := h - 1 - i) (j := j) (by omega) (by omega)
          unfold upside at this
          rw [show h - 1 - (h - 1 - i) = i by omega] at this
          rcases this with g | g
          · exact .inr (.inl g)
          · exact .inr (.inr (.inl g))
      · by_cases hlr : e ≤ l'
        · have hbu : ∀ y x, y < h → x < w → (upside cl h y x = cl i j ↔ (h - d ≤ y ∧ y < h - t) ∧ l ≤ x ∧ x < e) := fun y x hy hx => by
            unfold upside
            rw [hb (h - 1 - y) x (by omega) hx]; omega
          have := se_room hr.upside hc.upside (a := cl i j) (SR := L (cl i j)) (SD := fun u => A u (cl i j)) (fun u v g s => stepL _ u v g s.upside) (fun u v g s => stepA' _ u v g s.upside) (t := h - d) (d := h - t) (l := l) (e := e) (by omega) (by omega) hbu (i := h - 1 - i') (j := j') (by omega) (by omega)
          unfold upside at this
          rw [show h - 1 - (h - 1 - i') = i' by omega] at this
          rcases this with g | g
          · exact .inl g
          · exact .inr (.inr (.inr g))
        · rcases se_room hr hc (stepL (cl i' j')) (stepA (cl i' j')) (t := t') (d := d') (l := l') (e := e') (by omega) (by omega) hb' (i := i) (j := j) (by omega) (by omega) with g | g
          · exact .inr (.inl g)
          · exact .inr (.inr (.inr g))
end Go.Proofs.Ytdhnjecbdclmaaa
