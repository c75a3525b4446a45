/- The plain law: parts of cuttable parts are cuttable along any cut; so the first cuts tell whether there is a way. -/
import Derived.Test.YtdhnjecbdclmaaaKYCodeRowM
namespace Go.Proofs.Ytdhnjecbdclmaaa
open Go.RowKit Go.Shelf Go.Proofs.YtdhnjecbdclmaaaW.PrintWords Go.Proofs.YtdhnjecbdclmaaaW.PrintMore
set_option linter.unusedVariables false
theorem linesL_mem (cl : Nat → Nat → Int) (level : Bool) (lo from_ long n k : Nat) : (level, k) ∈ linesL cl level lo from_ long n ↔ lo + 1 ≤ k ∧ k < lo + 1 + n ∧ throughL cl level k from_ long = true := by
  constructor
  · intro h
    obtain ⟨_, a, b, c⟩ := linesL_in h
    exact ⟨a, b, c⟩
  · rintro ⟨a, b, c⟩
    rw [linesL_filter]
    exact List.mem_map.2 ⟨k - lo, List.mem_filter.2 ⟨List.mem_range'_1.2 (by omega), by rw [show lo + (k - lo) = k by omega]; exact c⟩, by rw [show lo + (k - lo) = k by omega]⟩
theorem cuts_up (cl : Nat → Nat → Int) (r c ph pw k : Nat) : (false, k) ∈ cutsL cl r c ph pw ↔ c + 1 ≤ k ∧ k < c + pw ∧ throughL cl false k r ph = true := by
  unfold cutsL
  rw [List.mem_append, linesL_mem]
  constructor
  · rintro (⟨a, b, d⟩ | h)
    · exact ⟨a, by omega, d⟩
    · exact absurd (linesL_in h).1 (by simp)
  · rintro ⟨a, b, d⟩
    exact .inl ⟨a, by omega, d⟩
theorem cuts_lv (cl : Nat → Nat → Int) (r c ph pw k : Nat) : (true, k) ∈ cutsL cl r c ph pw ↔ r + 1 ≤ k ∧ k < r + ph ∧ throughL cl true k c pw = true := by
  unfold cutsL
  rw [List.mem_append, linesL_mem]
  constructor
  · rintro (h | ⟨a, b, d⟩)
    · exact absurd (linesL_in h).1 (by simp)
    · exact ⟨a, by omega, d⟩
  · rintro ⟨a, b, d⟩
    exact .inr ⟨a, by omega, d⟩
theorem thru_sub {cl : Nat → Nat → Int} {level : Bool} {line a n b m : Nat} (h : throughL cl level line a n = true) (h1 : a ≤ b) (h2 : b + m ≤ a + n) : throughL cl level line b m = true := by
  rw [throughL_iff] at h ⊢
  intro i hi
  have := h (b - a + i) (by omega)
  rwa [show a + (b - a + i) = b + i by omega] at this
theorem ways_fuel (cl : Nat → Nat → Int) (boxes : List Box) : ∀ (n m r c ph pw : Nat), ph + pw < n → ph + pw < m → waysN cl boxes n (r, c, ph, pw) = waysN cl boxes m (r, c, ph, pw) := by
  intro n
  induction n with
  | zero => intro m r c ph pw h; omega
  | succ n ih =>
    intro m r c ph pw h1 h2
    obtain ⟨m, rfl⟩ : ∃ j, m = j + 1 := ⟨m - 1, by omega⟩
    unfold waysN
    split
    · rfl
    · congr 1
      apply List.map_congr_left
      intro x hx
      have i1 := (one_in hx).less
      have i2 := (two_in hx).less
      have a := ih m (oneR r c ph pw x).1 (oneR r c ph pw x).2.1 (oneR r c ph pw x).2.2.1 (oneR r c ph pw x).2.2.2 (by omega) (by omega)
      have b := ih m (twoR r c ph pw x).1 (twoR r c ph pw x).2.1 (twoR r c ph pw x).2.2.1 (twoR r c ph pw x).2.2.2 (by omega) (by omega)
      rw [show waysN cl boxes n (oneR r c ph pw x) = waysN cl boxes m (oneR r c ph pw x) from a, show waysN cl boxes n (twoR r c ph pw x) = waysN cl boxes m (twoR r c ph pw x) from b]
def Pos (cl : Nat → Nat → Int) (boxes : List Box) (r c ph pw : Nat) : Prop := 0 < waysN cl boxes (ph + pw + 1) (r, c, ph, pw)
theorem cut_rooms {cl : Nat → Nat → Int} {boxes : List Box} {h wd r c ph pw : Nat} (f : Flat cl boxes h wd) (hw : Whole cl h wd r c ph pw) {x : Bool × Nat} (hx : x ∈ cutsL cl r c ph pw) : (listL boxes (natB r c ph pw) boxes.length).length ≠ 1 := by
  have e := rooms_split f hw hx
  obtain ⟨w1, w2⟩ := whole_parts f hw hx
  have p1 := rooms_pos f w1
  have p2 := rooms_pos f w2
  unfold roomsN at e p1 p2
  omega
theorem pos_ways {cl : Nat → Nat → Int} {boxes : List Box} {n : Nat} {R : Rc} (h : R.2.2.1 + R.2.2.2 < n) : 0 < waysN cl boxes n R ↔ Pos cl boxes R.1 R.2.1 R.2.2.1 R.2.2.2 := by
  unfold Pos
  rw [ways_fuel cl boxes (R.2.2.1 + R.2.2.2 + 1) n R.1 R.2.1 R.2.2.1 R.2.2.2 (by omega) h]
theorem sum_pos {α : Type} {l : List α} {g : α → Nat} : 0 < (l.map g).sum ↔ ∃ x ∈ l, 0 < g x := by
  induction l with
  | nil => simp
  | cons a l ih =>
    rw [List.map_cons, List.sum_cons]
    constructor
    · intro h
      by_cases h1 : 0 < g a
      · exact ⟨a, by simp, h1⟩
      · obtain ⟨x, hx, hg⟩ := ih.1 (by omega)
        exact ⟨x, by simp [hx], hg⟩
    · rintro ⟨x, hx, hg⟩
      rcases List.mem_cons.1 hx with rfl | hx
      · omega
      · have := ih.2 ⟨x, hx, hg⟩; omega
theorem pos_iff {cl : Nat → Nat → Int} {boxes : List Box} {r c ph pw : Nat} (h1 : (listL boxes (natB r c ph pw) boxes.length).length ≠ 1) :
    Pos cl boxes r c ph pw ↔ ∃ x ∈ cutsL cl r c ph pw, Pos cl boxes (oneR r c ph pw x).1 (oneR r c ph pw x).2.1 (oneR r c ph pw x).2.2.1 (oneR r c ph pw x).2.2.2 ∧ Pos cl boxes (twoR r c ph pw x).1 (twoR r c ph pw x).2.1 (twoR r c ph pw x).2.2.1 (twoR r c ph pw x).2.2.2 := by
  have hv : waysN cl boxes (ph + pw + 1) (r, c, ph, pw) = ((cutsL cl r c ph pw).map fun x => waysN cl boxes (ph + pw) (oneR r c ph pw x) * waysN cl boxes (ph + pw) (twoR r c ph pw x)).sum := by
    conv => lhs; unfold waysN
    rw [if_neg h1]
  unfold Pos
  rw [hv, sum_pos]
  constructor
  · rintro ⟨x, hx, hg⟩
    have i1 := (one_in hx).less
    have i2 := (two_in hx).less
    exact ⟨x, hx, (pos_ways i1).1 (Nat.pos_of_mul_pos_right hg), (pos_ways i2).1 (Nat.pos_of_mul_pos_left hg)⟩
  · rintro ⟨x, hx, g1, g2⟩
    have i1 := (one_in hx).less
    have i2 := (two_in hx).less
    exact ⟨x, hx, Nat.mul_pos ((pos_ways i1).2 g1) ((pos_ways i2).2 g2)⟩
theorem pos_up {cl : Nat → Nat → Int} {boxes : List Box} {h wd r c ph pw k : Nat} (f : Flat cl boxes h wd) (hw : Whole cl h wd r c ph pw) (hk : (false, k) ∈ cutsL cl r c ph pw) (h1 : Pos cl boxes r c ph (k - c)) (h2 : Pos cl boxes r k ph (pw - (k - c))) : Pos cl boxes r c ph pw :=
  (pos_iff (cut_rooms f hw hk)).2 ⟨_, hk, h1, h2⟩
theorem pos_lv {cl : Nat → Nat → Int} {boxes : List Box} {h wd r c ph pw k : Nat} (f : Flat cl boxes h wd) (hw : Whole cl h wd r c ph pw) (hk : (true, k) ∈ cutsL cl r c ph pw) (h1 : Pos cl boxes r c (k - r) pw) (h2 : Pos cl boxes k c (ph - (k - r)) pw) : Pos cl boxes r c ph pw :=
  (pos_iff (cut_rooms f hw hk)).2 ⟨_, hk, h1, h2⟩
theorem pos_hered {cl : Nat → Nat → Int} {boxes : List Box} {h wd : Nat} (f : Flat cl boxes h wd) : ∀ (n r c ph pw : Nat), ph + pw < n → Whole cl h wd r c ph pw → Pos cl boxes r c ph pw →
    (∀ k, (false, k) ∈ cutsL cl r c ph pw → Pos cl boxes r c ph (k - c) ∧ Pos cl boxes r k ph (pw - (k - c))) ∧ (∀ k, (true, k) ∈ cutsL cl r c ph pw → Pos cl boxes r c (k - r) pw ∧ Pos cl boxes k c (ph - (k - r)) pw) := by
  intro n
  induction n with
  | zero => intro r c ph pw h0; omega
  | succ n ih =>
    intro r c ph pw hlt hw hp
    have main : ∀ y : Bool × Nat, y ∈ cutsL cl r c ph pw → ∃ x ∈ cutsL cl r c ph pw, Pos cl boxes (oneR r c ph pw x).1 (oneR r c ph pw x).2.1 (oneR r c ph pw x).2.2.1 (oneR r c ph pw x).2.2.2 ∧ Pos cl boxes (twoR r c ph pw x).1 (twoR r c ph pw x).2.1 (twoR r c ph pw x).2.2.1 (twoR r c ph pw x).2.2.2 := fun y hy => (pos_iff (cut_rooms f hw hy)).1 hp
    constructor
    · intro k hy
      obtain ⟨⟨b, l⟩, hx, p1, p2⟩ := main _ hy
      obtain ⟨ky1, ky2, kt⟩ := (cuts_up cl r c ph pw k).1 hy
      cases b with
      | false =>
        obtain ⟨lx1, lx2, lt⟩ := (cuts_up cl r c ph pw l).1 hx
        obtain ⟨w1, w2⟩ := whole_up f hw ⟨lx1, lx2⟩ lt
        obtain ⟨v1, v2⟩ := whole_up f hw ⟨ky1, ky2⟩ kt
        have p1 : Pos cl boxes r c ph (l - c) := p1
        have p2 : Pos cl boxes r l ph (pw - (l - c)) := p2
        rcases Nat.lt_trichotomy l k with hlk | hlk | hlk
        ·
          have hy2 : (false, k) ∈ cutsL cl r l ph (pw - (l - c)) := (cuts_up _ _ _ _ _ _).2 ⟨by omega, by omega, kt⟩
          obtain ⟨q1, q2⟩ := (ih r l ph (pw - (l - c)) (by omega) w2 p2).1 k hy2
          have hx2 : (false, l) ∈ cutsL cl r c ph (k - c) := (cuts_up _ _ _ _ _ _).2 ⟨by omega, by omega, lt⟩
          refine ⟨pos_up f v1 hx2 p1 ?_, ?_⟩
          · rw [show k - c - (l - c) = k - l by omega]; exact q1
          · rw [show pw - (l - c) - (k - l) = pw - (k - c) by omega] at q2; exact q2
        · subst hlk; exact ⟨p1, p2⟩
        · have hy2 : (false, k) ∈ cutsL cl r c ph (l - c) := (cuts_up _ _ _ _ _ _).2 ⟨by omega, by omega, kt⟩
          obtain ⟨q1, q2⟩ := (ih r c ph (l - c) (by omega) w1 p1).1 k hy2
          have hx2 : (false, l) ∈ cutsL cl r k ph (pw - (k - c)) := (cuts_up _ _ _ _ _ _).2 ⟨by omega, by omega, lt⟩
          refine ⟨q1, pos_up f v2 hx2 ?_ ?_⟩
          · rw [show l - k = l - c - (k - c) by omega]; exact q2
          · rw [show pw - (k - c) - (l - k) = pw - (l - c) by omega]; exact p2
      | true =>
        obtain ⟨lx1, lx2, lt⟩ := (cuts_lv cl r c ph pw l).1 hx
        obtain ⟨w1, w2⟩ := whole_lv f hw ⟨lx1, lx2⟩ lt
        obtain ⟨v1, v2⟩ := whole_up f hw ⟨ky1, ky2⟩ kt
        have p1 : Pos cl boxes r c (l - r) pw := p1
        have p2 : Pos cl boxes l c (ph - (l - r)) pw := p2
        have ya : (false, k) ∈ cutsL cl r c (l - r) pw := (cuts_up _ _ _ _ _ _).2 ⟨ky1, ky2, thru_sub kt (Nat.le_refl _) (by omega)⟩
        have yb : (false, k) ∈ cutsL cl l c (ph - (l - r)) pw := (cuts_up _ _ _ _ _ _).2 ⟨ky1, ky2, thru_sub kt (by omega) (by omega)⟩
        obtain ⟨a1, a2⟩ := (ih r c (l - r) pw (by omega) w1 p1).1 k ya
        obtain ⟨b1, b2⟩ := (ih l c (ph - (l - r)) pw (by omega) w2 p2).1 k yb
        have x1 : (true, l) ∈ cutsL cl r c ph (k - c) := (cuts_lv _ _ _ _ _ _).2 ⟨lx1, lx2, thru_sub lt (Nat.le_refl _) (by omega)⟩
        have x2 : (true, l) ∈ cutsL cl r k ph (pw - (k - c)) := (cuts_lv _ _ _ _ _ _).2 ⟨lx1, lx2, thru_sub lt (by omega) (by omega)⟩
        exact ⟨pos_lv f v1 x1 a1 b1, pos_lv f v2 x2 a2 b2⟩
    · intro k hy
      obtain ⟨⟨b, l⟩, hx, p1, p2⟩ := main _ hy
      obtain ⟨ky1, ky2, kt⟩ := (cuts_lv cl r c ph pw k).1 hy
      cases b with
      | true =>
        obtain ⟨lx1, lx2, lt⟩ := (cuts_lv cl r c ph pw l).1 hx
        obtain ⟨w1, w2⟩ := whole_lv f hw ⟨lx1, lx2⟩ lt
        obtain ⟨v1, v2⟩ := whole_lv f hw ⟨ky1, ky2⟩ kt
        have p1 : Pos cl boxes r c (l - r) pw := p1
        have p2 : Pos cl boxes l c (ph - (l - r)) pw := p2
        rcases Nat.lt_trichotomy l k with hlk | hlk | hlk
        · have hy2 : (true, k) ∈ cutsL cl l c (ph - (l - r)) pw := (cuts_lv _ _ _ _ _ _).2 ⟨by omega, by omega, kt⟩
          obtain ⟨q1, q2⟩ := (ih l c (ph - (l - r)) pw (by omega) w2 p2).2 k hy2
          have hx2 : (true, l) ∈ cutsL cl r c (k - r) pw := (cuts_lv _ _ _ _ _ _).2 ⟨by omega, by omega, lt⟩
          refine ⟨pos_lv f v1 hx2 p1 ?_, ?_⟩
          · rw [show k - r - (l - r) = k - l by omega]; exact q1
          · rw [show ph - (l - r) - (k - l) = ph - (k - r) by omega] at q2; exact q2
        · subst hlk; exact ⟨p1, p2⟩
        · have hy2 : (true, k) ∈ cutsL cl r c (l - r) pw := (cuts_lv _ _ _ _ _ _).2 ⟨by omega, by omega, kt⟩
          obtain ⟨q1, q2⟩ := (ih r c (l - r) pw (by omega) w1 p1).2 k hy2
          have hx2 : (true, l) ∈ cutsL cl k c (ph - (k - r)) pw := (cuts_lv _ _ _ _ _ _).2 ⟨by omega, by omega, lt⟩
          refine ⟨q1, pos_lv f v2 hx2 ?_ ?_⟩
          · rw [show l - k = l - r - (k - r) by omega]; exact q2
          · rw [show ph - (k - r) - (l - k) = ph - (l - r) by omega]; exact p2
      | false =>
        obtain ⟨lx1, lx2, lt⟩ := (cuts_up cl r c ph pw l).1 hx
        obtain ⟨w1, w2⟩ := whole_up f hw ⟨lx1, lx2⟩ lt
        obtain ⟨v1, v2⟩ := whole_lv f hw ⟨ky1, ky2⟩ kt
        have p1 : Pos cl boxes r c ph (l - c) := p1
        have p2 : Pos cl boxes r l ph (pw - (l - c)) := p2
        have ya : (true, k) ∈ cutsL cl r c ph (l - c) := (cuts_lv _ _ _ _ _ _).2 ⟨ky1, ky2, thru_sub kt (Nat.le_refl _) (by omega)⟩
        have yb : (true, k) ∈ cutsL cl r l ph (pw - (l - c)) := (cuts_lv _ _ _ _ _ _).2 ⟨ky1, ky2, thru_sub kt (by omega) (by omega)⟩
        obtain ⟨a1, a2⟩ := (ih r c ph (l - c) (by omega) w1 p1).2 k ya
        obtain ⟨b1, b2⟩ := (ih r l ph (pw - (l - c)) (by omega) w2 p2).2 k yb
        have x1 : (false, l) ∈ cutsL cl r c (k - r) pw := (cuts_up _ _ _ _ _ _).2 ⟨lx1, lx2, thru_sub lt (Nat.le_refl _) (by omega)⟩
        have x2 : (false, l) ∈ cutsL cl k c (ph - (k - r)) pw := (cuts_up _ _ _ _ _ _).2 ⟨lx1, lx2, thru_sub lt (by omega) (by omega)⟩
        exact ⟨pos_up f v1 x1 a1 b1, pos_up f v2 x2 a2 b2⟩
theorem pos_parts {cl : Nat → Nat → Int} {boxes : List Box} {h wd r c ph pw : Nat} (f : Flat cl boxes h wd) (hw : Whole cl h wd r c ph pw) (hp : Pos cl boxes r c ph pw) {x : Bool × Nat} (hx : x ∈ cutsL cl r c ph pw) :
    Pos cl boxes (oneR r c ph pw x).1 (oneR r c ph pw x).2.1 (oneR r c ph pw x).2.2.1 (oneR r c ph pw x).2.2.2 ∧ Pos cl boxes (twoR r c ph pw x).1 (twoR r c ph pw x).2.1 (twoR r c ph pw x).2.2.1 (twoR r c ph pw x).2.2.2 := by
  obtain ⟨g1, g2⟩ := pos_hered f _ r c ph pw (Nat.lt_succ_self _) hw hp
  obtain ⟨b, k⟩ := x
  cases b with
  | true => exact g2 k hx
  | false => exact g1 k hx
theorem text_pos {cl : Nat → Nat → Int} {boxes : List Box} {h wd : Nat} (f : Flat cl boxes h wd) : ∀ (n r c ph pw : Nat), ph + pw < n → Whole cl h wd r c ph pw → ((textL cl boxes n (r, c, ph, pw)).isSome = true ↔ Pos cl boxes r c ph pw) := by
  intro n
  induction n with
  | zero => intro r c ph pw h0; omega
  | succ n ih =>
    intro r c ph pw hlt hw
    by_cases h1 : (listL boxes (natB r c ph pw) boxes.length).length = 1
    · rw [textL_one h1]
      unfold Pos waysN
      rw [if_pos h1]; simp
    · cases hx : (cutsL cl r c ph pw).head? with
      | none =>
        rw [textL_none h1 hx, pos_iff h1, List.head?_eq_none_iff.1 hx]; simp
      | some x =>
        have hxm := head_in hx
        obtain ⟨w1, w2⟩ := whole_parts f hw hxm
        have i1 := (one_in hxm).less
        have i2 := (two_in hxm).less
        have e1 := ih _ _ _ _ (by omega) w1
        have e2 := ih _ _ _ _ (by omega) w2
        rw [textL_some h1 hx]
        constructor
        · intro hs
          refine (pos_iff h1).2 ⟨x, hxm, e1.1 ?_, e2.1 ?_⟩
          · show (textL cl boxes n (oneR r c ph pw x)).isSome = true
            cases ho : textL cl boxes n (oneR r c ph pw x) with
            | none => rw [ho] at hs; cases hs
            | some a => rfl
          · show (textL cl boxes n (twoR r c ph pw x)).isSome = true
            cases ho : textL cl boxes n (twoR r c ph pw x) with
            | none => rw [ho] at hs; cases hq : textL cl boxes n (oneR r c ph pw x) <;> rw [hq] at hs <;> cases hs
            | some a => rfl
        · intro hp
          obtain ⟨q1, q2⟩ := pos_parts f hw hp hxm
          have s1 : (textL cl boxes n (oneR r c ph pw x)).isSome = true := e1.2 q1
          have s2 : (textL cl boxes n (twoR r c ph pw x)).isSome = true := e2.2 q2
          obtain ⟨a, ha⟩ := Option.isSome_iff_exists.1 s1
          obtain ⟨b, hb⟩ := Option.isSome_iff_exists.1 s2
          rw [ha, hb]; rfl
end Go.Proofs.Ytdhnjecbdclmaaa
