/- Texts of this claim's, joined by a program: YDeepP, YDeep, YSpecDeep, YCutDeep, YTextLen, YDeepQ, YWaysTurn. -/
import Derived.Test.YtdhnjecbdclmaaaKYHered
import Derived.Test.YtdhnjecbdclmaaaKYCodeRowM
import Derived.IntWalk
import Derived.Test.YtdhnjecbdclmaaaKYSpecWays
import Derived.Test.YtdhnjecbdclmaaaKYSpecTextM
import Derived.Test.YtdhnjecbdclmaaaKYRemade
import Derived.Test.YtdhnjecbdclmaaaKYCutWaysM
section
namespace Go.Proofs.Ytdhnjecbdclmaaa
open Go.RowKit Go.Shelf Go.Proofs.YtdhnjecbdclmaaaW.PrintWords Go.Proofs.YtdhnjecbdclmaaaW.PrintMore
set_option linter.unusedVariables false
end Go.Proofs.Ytdhnjecbdclmaaa
end
section
namespace Go.Proofs.Ytdhnjecbdclmaaa
open Go.RowKit Go.Shelf Go.Proofs.YtdhnjecbdclmaaaW.PrintWords Go.Proofs.YtdhnjecbdclmaaaW.PrintMore
attribute [local go_sem] Oper.semAt_some
attribute [local go_sem] max2_int min2_int max_two min_two max_three min_three max_four min_four
set_option linter.unusedVariables false
set_option linter.unusedSimpArgs false
end Go.Proofs.Ytdhnjecbdclmaaa
end
section
namespace Go.Proofs.Ytdhnjecbdclmaaa
open Go.RowKit Go.Shelf Go.Proofs.YtdhnjecbdclmaaaW.PrintWords Go.Proofs.YtdhnjecbdclmaaaW.PrintMore L3
set_option linter.unusedVariables false
end Go.Proofs.Ytdhnjecbdclmaaa
end
section
namespace Go.Proofs.Ytdhnjecbdclmaaa
open Go.RowKit Go.Shelf Go.Proofs.YtdhnjecbdclmaaaW.PrintWords Go.Proofs.YtdhnjecbdclmaaaW.PrintMore
set_option linter.unusedVariables false
end Go.Proofs.Ytdhnjecbdclmaaa
end
section
namespace Go.Proofs.Ytdhnjecbdclmaaa
open Go.RowKit Go.Shelf Go.Proofs.YtdhnjecbdclmaaaW.PrintWords Go.Proofs.YtdhnjecbdclmaaaW.PrintMore
set_option linter.unusedVariables false
set_option linter.unusedSimpArgs false
end Go.Proofs.Ytdhnjecbdclmaaa
end
section
namespace Go.Proofs.Ytdhnjecbdclmaaa
open Go.RowKit Go.Shelf Go.Proofs.YtdhnjecbdclmaaaW.PrintWords Go.Proofs.YtdhnjecbdclmaaaW.PrintMore
set_option linter.unusedVariables false
set_option linter.unusedSimpArgs false
def SameAll (cl : Nat → Nat → Int) (R : Rc) : Prop := ∀ i j i' j', InR R.1 R.2.1 R.2.2.1 R.2.2.2 i j → InR R.1 R.2.1 R.2.2.1 R.2.2.2 i' j' → cl i j = cl i' j'
theorem same_one {cl : Nat → Nat → Int} {boxes : List Box} {h wd r c ph pw : Nat} (f : Flat cl boxes h wd) (hw : Whole cl h wd r c ph pw) : (listL boxes (natB r c ph pw) boxes.length).length = 1 ↔ SameAll cl (r, c, ph, pw) := by
  rw [list_one f hw]
  have hs := hw.some
  constructor
  · intro g i j i' j' h1 h2
    rw [g i j h1, g i' j' h2]
  · intro g i j h1
    exact g i j r c h1 ⟨⟨Nat.le_refl _, by show r < r + ph; omega⟩, Nat.le_refl _, by show c < c + pw; omega⟩
section
variable {cl cl' : Nat → Nat → Int} {h wd : Nat}
def backR (h : Nat) (R : Rc) : Rc := (h - R.2.1 - R.2.2.2, R.1, R.2.2.2, R.2.2.1)
end
end Go.Proofs.Ytdhnjecbdclmaaa
end
section
namespace Go.Proofs.Ytdhnjecbdclmaaa
open Go.RowKit Go.Shelf Go.Proofs.YtdhnjecbdclmaaaW.PrintWords Go.Proofs.YtdhnjecbdclmaaaW.PrintMore
set_option linter.unusedVariables false
set_option linter.unusedSimpArgs false
theorem perm_sum {l m : List Nat} (h : List.Perm l m) : l.sum = m.sum := by
  induction h with
  | nil => rfl
  | cons x _ ih => rw [List.sum_cons, List.sum_cons, ih]
  | swap x y l => rw [List.sum_cons, List.sum_cons, List.sum_cons, List.sum_cons]; omega
  | trans _ _ ih1 ih2 => rw [ih1, ih2]
theorem lines_nodup (cl : Nat → Nat → Int) (level : Bool) (lo from_ long n : Nat) : (linesL cl level lo from_ long n).Nodup := by
  rw [linesL_filter]
  refine List.Pairwise.map _ (R := (· ≠ ·)) (fun a b hab e => ?_) ((List.nodup_range' (step := 1)).filter _)
  injection e with _ e
  omega
theorem cuts_nodup (cl : Nat → Nat → Int) (r c ph pw : Nat) : (cutsL cl r c ph pw).Nodup := by
  unfold cutsL
  refine List.nodup_append.2 ⟨lines_nodup _ _ _ _ _ _, lines_nodup _ _ _ _ _ _, fun a ha b hb e => ?_⟩
  subst e
  have h1 := (linesL_in ha).1
  have h2 := (linesL_in hb).1
  rw [h1] at h2
  cases h2
section
variable {cl cl' : Nat → Nat → Int} {boxes boxes' : List Box} {h wd : Nat}
def backX (h : Nat) (x : Bool × Nat) : Bool × Nat := if x.1 then (false, x.2) else (true, h - x.2)
theorem ways_turn (f : Flat cl boxes h wd) (f' : Flat cl' boxes' wd h) (hs : ∀ i j i' j', i < wd → j < h → i' < wd → j' < h → (cl' i j = cl' i' j' ↔ cl (h - 1 - j) i = cl (h - 1 - j') i')) : ∀ (n r c ph pw : Nat), Whole cl' wd h r c ph pw → Whole cl h wd (h - c - pw) r pw ph → waysN cl' boxes' n (r, c, ph, pw) = waysN cl boxes n (backR h (r, c, ph, pw)) := by
  intro n
  induction n with
  | zero => intro r c ph pw _ _; rfl
  | succ n ih =>
    intro r c ph pw w1 w2
    have hr := w1.row
    have hc := w1.col
    have h1 := w1.some.1
    have h2 := w1.some.2
    have same : SameAll cl' (r, c, ph, pw) ↔ SameAll cl (h - c - pw, r, pw, ph) := by
      unfold SameAll InR
      dsimp only
      constructor
      · intro g i j i' j' g1 g2
        have := (hs j (h - 1 - i) j' (h - 1 - i') (by omega) (by omega) (by omega) (by omega)).1 (g j (h - 1 - i) j' (h - 1 - i') (by omega) (by omega))
        rwa [show h - 1 - (h - 1 - i) = i by omega, show h - 1 - (h - 1 - i') = i' by omega] at this
      · intro g i j i' j' g1 g2
        exact (hs i j i' j' (by omega) (by omega) (by omega) (by omega)).2 (g (h - 1 - j) i (h - 1 - j') i' (by omega) (by omega))
    have lv : ∀ k, (true, k) ∈ cutsL cl' r c ph pw ↔ (false, k) ∈ cutsL cl (h - c - pw) r pw ph := by
      intro k
      rw [cuts_lv, cuts_up, throughL_iff, throughL_iff]
      unfold sidesL
      simp only [if_true, Bool.false_eq_true, if_false]
      constructor
      · rintro ⟨a, b, g⟩
        refine ⟨a, b, fun i hi e => g (pw - 1 - i) (by omega) ((hs _ _ _ _ (by omega) (by omega) (by omega) (by omega)).2 ?_)⟩
        rw [show h - 1 - (c + (pw - 1 - i)) = h - c - pw + i by omega]; exact e
      · rintro ⟨a, b, g⟩
        refine ⟨a, b, fun i hi e => g (pw - 1 - i) (by omega) ?_⟩
        have := (hs _ _ _ _ (by omega) (by omega) (by omega) (by omega)).1 e
        rwa [show h - 1 - (c + i) = h - c - pw + (pw - 1 - i) by omega] at this
    have upr : ∀ k, k ≤ h → ((false, k) ∈ cutsL cl' r c ph pw ↔ (true, h - k) ∈ cutsL cl (h - c - pw) r pw ph) := by
      intro k hk
      rw [cuts_lv, cuts_up, throughL_iff, throughL_iff]
      unfold sidesL
      simp only [if_true, Bool.false_eq_true, if_false]
      constructor
      · rintro ⟨a, b, g⟩
        refine ⟨by omega, by omega, fun i hi e => g i hi ((hs _ _ _ _ (by omega) (by omega) (by omega) (by omega)).2 ?_)⟩
        rw [show h - 1 - (k - 1) = h - k by omega, show h - 1 - k = h - k - 1 by omega]; exact e.symm
      · rintro ⟨a, b, g⟩
        refine ⟨by omega, by omega, fun i hi e => g i hi ?_⟩
        have := (hs _ _ _ _ (by omega) (by omega) (by omega) (by omega)).1 e
        rw [show h - 1 - (k - 1) = h - k by omega, show h - 1 - k = h - k - 1 by omega] at this
        exact this.symm
    have hperm : List.Perm ((cutsL cl' r c ph pw).map (backX h)) (cutsL cl (h - c - pw) r pw ph) := by
      refine (List.perm_ext_iff_of_nodup ?_ (cuts_nodup _ _ _ _ _)).2 fun y => ?_
      · refine List.Pairwise.map _ (R := fun a b => a ≠ b ∧ a ∈ cutsL cl' r c ph pw ∧ b ∈ cutsL cl' r c ph pw) ?_ ?_
        · rintro ⟨b1, k1⟩ ⟨b2, k2⟩ ⟨hne, m1, m2⟩ e
          apply hne
          cases b1 <;> cases b2 <;> unfold backX at e <;> simp only [if_true, Bool.false_eq_true, if_false, Prod.mk.injEq] at e
          · have := (cuts_up ..).1 m1
            have := (cuts_up ..).1 m2
            rw [show k1 = k2 by omega]
          · exact absurd e.1 (by decide)
          · exact absurd e.1 (by decide)
          · rw [e.2]
        · exact List.Pairwise.imp_of_mem (fun ha hb hab => ⟨hab, ha, hb⟩) (cuts_nodup cl' r c ph pw)
      · rw [List.mem_map]
        constructor
        · rintro ⟨⟨b, k⟩, hx, rfl⟩
          cases b with
          | true => exact (lv k).1 hx
          | false =>
            have := (cuts_up ..).1 hx
            exact (upr k (by omega)).1 hx
        · obtain ⟨b, k⟩ := y
          intro hx
          cases b with
          | false => exact ⟨(true, k), (lv k).2 hx, rfl⟩
          | true =>
            have := (cuts_lv ..).1 hx
            have e : h - (h - k) = k := by omega
            exact ⟨(false, h - k), (upr (h - k) (by omega)).2 (by rw [e]; exact hx), by unfold backX; simp only [Bool.false_eq_true, if_false]; rw [e]⟩
    show waysN cl' boxes' (n + 1) (r, c, ph, pw) = waysN cl boxes (n + 1) (h - c - pw, r, pw, ph)
    unfold waysN
    have hc1 : (listL boxes' (natB r c ph pw) boxes'.length).length = 1 ↔ (listL boxes (natB (h - c - pw) r pw ph) boxes.length).length = 1 := by
      rw [same_one f' w1, same_one f w2, same]
    by_cases hone : (listL boxes' (natB r c ph pw) boxes'.length).length = 1
    · rw [if_pos hone, if_pos (hc1.1 hone)]
    · rw [if_neg hone, if_neg (fun e => hone (hc1.2 e))]
      rw [← perm_sum (hperm.map fun x => waysN cl boxes n (oneR (h - c - pw) r pw ph x) * waysN cl boxes n (twoR (h - c - pw) r pw ph x)), List.map_map]
      congr 1
      refine List.map_congr_left fun x hx => ?_
      obtain ⟨p1, p2⟩ := whole_parts f' w1 hx
      show _ = waysN cl boxes n (oneR (h - c - pw) r pw ph (backX h x)) * waysN cl boxes n (twoR (h - c - pw) r pw ph (backX h x))
      obtain ⟨b, k⟩ := x
      cases b with
      | true =>
        have hk := (cuts_lv ..).1 hx
        have hx2 := (lv k).1 hx
        obtain ⟨q1, q2⟩ := whole_parts f w2 hx2
        have a1 := ih r c (k - r) pw p1 q1
        have a2 := ih k c (ph - (k - r)) pw p2 q2
        change waysN cl' boxes' n (oneR r c ph pw (true, k)) = waysN cl boxes n (oneR (h - c - pw) r pw ph (false, k)) at a1
        change waysN cl' boxes' n (twoR r c ph pw (true, k)) = waysN cl boxes n (twoR (h - c - pw) r pw ph (false, k)) at a2
        rw [a1, a2]; rfl
      | false =>
        have hk := (cuts_up ..).1 hx
        have hx2 := (upr k (by omega)).1 hx
        obtain ⟨q1, q2⟩ := whole_parts f w2 hx2
        have e1 : backR h (oneR r c ph pw (false, k)) = twoR (h - c - pw) r pw ph (true, h - k) := by
          show (h - c - (k - c), r, k - c, ph) = (h - k, r, pw - ((h - k) - (h - c - pw)), ph)
          rw [show h - c - (k - c) = h - k by omega, show pw - ((h - k) - (h - c - pw)) = k - c by omega]
        have e2 : backR h (twoR r c ph pw (false, k)) = oneR (h - c - pw) r pw ph (true, h - k) := by
          show (h - k - (pw - (k - c)), r, pw - (k - c), ph) = (h - c - pw, r, (h - k) - (h - c - pw), ph)
          rw [show h - k - (pw - (k - c)) = h - c - pw by omega, show (h - k) - (h - c - pw) = pw - (k - c) by omega]
        have a1 := ih r c ph (k - c) p1 (by
          have : Whole cl h wd (h - k) r (pw - ((h - k) - (h - c - pw))) ph := q2
          rwa [show pw - ((h - k) - (h - c - pw)) = k - c by omega, show h - k = h - c - (k - c) by omega] at this)
        have a2 := ih r k ph (pw - (k - c)) p2 (by
          have : Whole cl h wd (h - c - pw) r ((h - k) - (h - c - pw)) ph := q1
          rwa [show (h - k) - (h - c - pw) = pw - (k - c) by omega, show h - c - pw = h - k - (pw - (k - c)) by omega] at this)
        change waysN cl' boxes' n (oneR r c ph pw (false, k)) = waysN cl boxes n (backR h (oneR r c ph pw (false, k))) at a1
        change waysN cl' boxes' n (twoR r c ph pw (false, k)) = waysN cl boxes n (backR h (twoR r c ph pw (false, k))) at a2
        rw [a1, a2, e1, e2, Nat.mul_comm]; rfl
end
theorem waysP_turn {p q : List ByteArray} (hp : planG p = true) (hq : Planned (fun r c => clP p (p.length - 1 - c) r) (wdP p) p.length q) : waysP q = waysP p := by
  have f := planFlat hp
  have f' := planFlat hq.plan
  rw [hq.high, hq.wide] at f'
  have hh := f.high
  have hw := f.wide
  have w1 := f'.whole
  have w2 := f.whole
  have := ways_turn f f' hq.same 13 0 0 (wdP p) p.length w1 (by rw [show p.length - 0 - p.length = 0 by omega]; exact w2)
  unfold backR at this
  dsimp only at this
  rw [show p.length - 0 - p.length = 0 by omega] at this
  unfold waysP
  rw [hq.high, hq.wide]
  exact this
theorem sum_len {α : Type} {l : List α} {g : α → Nat} (h : ∀ x ∈ l, 1 ≤ g x) : l.length ≤ (l.map g).sum := by
  induction l with
  | nil => exact Nat.le_refl _
  | cons a l ih =>
    rw [List.map_cons, List.sum_cons, List.length_cons]
    have := ih fun x hx => h x (List.mem_cons_of_mem _ hx)
    have := h a List.mem_cons_self
    omega
theorem waysP_cuts {p : List ByteArray} (hp : planG p = true) (h0 : 0 < waysP p) : (cutsL (clP p) 0 0 p.length (wdP p)).length ≤ waysP p := by
  have f := planFlat hp
  have hh := f.high
  have hw := f.wide
  have hpos : Pos (clP p) (boxesP p) 0 0 p.length (wdP p) := (pos_ways (n := 13) (R := (0, 0, p.length, wdP p)) (by show p.length + wdP p < 13; omega)).1 h0
  by_cases h1 : (listL (boxesP p) (natB 0 0 p.length (wdP p)) (boxesP p).length).length = 1
  · have : cutsL (clP p) 0 0 p.length (wdP p) = [] := by
      apply List.eq_nil_iff_forall_not_mem.2
      intro x hx
      exact cut_rooms f f.whole hx h1
    rw [this]; exact Nat.zero_le _
  · unfold waysP waysN
    rw [if_neg h1]
    refine sum_len fun x hx => ?_
    obtain ⟨p1, p2⟩ := pos_parts f f.whole hpos hx
    have i1 := one_in hx
    have i2 := two_in hx
    have g1 := (pos_ways (n := 12) (R := oneR 0 0 p.length (wdP p) x) (by have := i1.less; omega)).2 p1
    have g2 := (pos_ways (n := 12) (R := twoR 0 0 p.length (wdP p) x) (by have := i2.less; omega)).2 p2
    exact Nat.mul_pos g1 g2
end Go.Proofs.Ytdhnjecbdclmaaa
end
