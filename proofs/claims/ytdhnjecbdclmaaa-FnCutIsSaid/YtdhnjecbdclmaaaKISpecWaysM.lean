/- Texts of this claim's, joined by a program: ISpecWays, ISpecDeep, ICutDeep, ITextLen, IDeepQ, IDeepF, ITurned, IBeside, IPlanBeside, IDepShift, IDepTight. -/
import Derived.Test.YtdhnjecbdclmaaaKIL3x2
import Derived.Test.YtdhnjecbdclmaaaKISpecTextM
import Derived.Test.YtdhnjecbdclmaaaKIPlanTurnM
import Derived.Test.YtdhnjecbdclmaaaKIDeepPM
import Derived.Test.YtdhnjecbdclmaaaKIRemade
section
namespace Go.Proofs.Ytdhnjecbdclmaaa
open Go.RowKit Go.Shelf Go.Proofs.YtdhnjecbdclmaaaW.PrintWords Go.Proofs.YtdhnjecbdclmaaaW.PrintMore L3
set_option linter.unusedVariables false
end Go.Proofs.Ytdhnjecbdclmaaa
end
section
namespace Go.Proofs.Ytdhnjecbdclmaaa
open Go.RowKit Go.Shelf Go.Proofs.YtdhnjecbdclmaaaW.PrintWords Go.Proofs.YtdhnjecbdclmaaaW.PrintMore L3
set_option linter.unusedVariables false
end Go.Proofs.Ytdhnjecbdclmaaa
end
section
namespace Go.Proofs.Ytdhnjecbdclmaaa
open Go.RowKit Go.Shelf Go.Proofs.YtdhnjecbdclmaaaW.PrintWords Go.Proofs.YtdhnjecbdclmaaaW.PrintMore
set_option linter.unusedVariables false
def deepP (p : List ByteArray) : Option Nat := deepO (clP p) (boxesP p) 13 (0, 0, p.length, wdP p)
theorem deep_text {p : List ByteArray} (h : planG p = true) : (cutTextO p).isSome = (deepP p).isSome := by
  have f := planFlat h
  have hh := f.high
  have hw := f.wide
  have e1 := text_pos f 13 0 0 p.length (wdP p) (by omega) f.whole
  have e2 := deep_pos f 13 0 0 p.length (wdP p) (by omega) f.whole
  rw [Bool.eq_iff_iff]
  exact e1.trans e2.symm
end Go.Proofs.Ytdhnjecbdclmaaa
end
section
namespace Go.Proofs.Ytdhnjecbdclmaaa
open Go.RowKit Go.Shelf Go.Proofs.YtdhnjecbdclmaaaW.PrintWords Go.Proofs.YtdhnjecbdclmaaaW.PrintMore
set_option linter.unusedVariables false
set_option linter.unusedSimpArgs false
end Go.Proofs.Ytdhnjecbdclmaaa
end
section
namespace Go.Proofs.Ytdhnjecbdclmaaa
open Go.RowKit Go.Shelf Go.Proofs.YtdhnjecbdclmaaaW.PrintWords Go.Proofs.YtdhnjecbdclmaaaW.PrintMore
set_option linter.unusedVariables false
set_option linter.unusedSimpArgs false
def SameAll (cl : Nat → Nat → Int) (R : Rc) : Prop := ∀ i j i' j', InR R.1 R.2.1 R.2.2.1 R.2.2.2 i j → InR R.1 R.2.1 R.2.2.1 R.2.2.2 i' j' → cl i j = cl i' j'
def Dep (cl : Nat → Nat → Int) : Nat → Rc → Prop
  | 0, R => SameAll cl R
  | d + 1, R => SameAll cl R ∨ ∃ x, x ∈ cutsL cl R.1 R.2.1 R.2.2.1 R.2.2.2 ∧ Dep cl d (oneR R.1 R.2.1 R.2.2.1 R.2.2.2 x) ∧ Dep cl d (twoR R.1 R.2.1 R.2.2.1 R.2.2.2 x)
theorem dep_same {cl : Nat → Nat → Int} {R : Rc} (h : SameAll cl R) : ∀ d, Dep cl d R := by
  intro d
  cases d with
  | zero => exact h
  | succ d => exact .inl h
theorem same_one {cl : Nat → Nat → Int} {boxes : List Box} {h wd r c ph pw : Nat} (f : Flat cl boxes h wd) (hw : Whole cl h wd r c ph pw) : (listL boxes (natB r c ph pw) boxes.length).length = 1 ↔ SameAll cl (r, c, ph, pw) := by
  rw [list_one f hw]
  have hs := hw.some
  constructor
  · intro g i j i' j' h1 h2
    rw [g i j h1, g i' j' h2]
  · intro g i j h1
    exact g i j r c h1 ⟨⟨Nat.le_refl _, by show r < r + ph; omega⟩, Nat.le_refl _, by show c < c + pw; omega⟩
theorem stepD_iff (b o1 o2 : Option Nat) (d : Nat) : (∃ e, stepD b o1 o2 = some e ∧ e ≤ d) ↔ (∃ e, b = some e ∧ e ≤ d) ∨ ∃ x y, o1 = some x ∧ o2 = some y ∧ 1 + max x y ≤ d := by
  unfold stepD
  cases o1 with
  | none => simp
  | some x =>
    cases o2 with
    | none => simp
    | some y =>
      cases b with
      | none => simp
      | some e =>
        simp only [Option.some.injEq]
        split
        · rename_i hlt
          constructor
          · rintro ⟨e', he, hd⟩
            obtain rfl := Option.some.inj he
            exact .inr ⟨x, y, rfl, rfl, hd⟩
          · rintro (⟨e', he, hd⟩ | ⟨x', y', hx, hy, hd⟩)
            · exact ⟨_, rfl, by omega⟩
            · exact ⟨_, rfl, by omega⟩
        · rename_i hlt
          constructor
          · rintro ⟨e', he, hd⟩
            obtain rfl := Option.some.inj he
            exact .inl ⟨e, rfl, hd⟩
          · rintro (⟨e', he, hd⟩ | ⟨x', y', hx, hy, hd⟩)
            · exact ⟨_, rfl, by omega⟩
            · exact ⟨_, rfl, by omega⟩
theorem foldD_iff {α : Type} (F G : α → Option Nat) (d : Nat) : ∀ (l : List α) (b : Option Nat), (∃ e, l.foldl (fun b x => stepD b (F x) (G x)) b = some e ∧ e ≤ d) ↔ (∃ e, b = some e ∧ e ≤ d) ∨ ∃ z, z ∈ l ∧ ∃ x y, F z = some x ∧ G z = some y ∧ 1 + max x y ≤ d := by
  intro l
  induction l with
  | nil => intro b; simp
  | cons a l ih =>
    intro b
    rw [List.foldl_cons, ih, stepD_iff]
    constructor
    · rintro ((h | h) | ⟨z, hz, h⟩)
      · exact .inl h
      · exact .inr ⟨a, List.mem_cons.2 (.inl rfl), h⟩
      · exact .inr ⟨z, List.mem_cons.2 (.inr hz), h⟩
    · rintro (h | ⟨z, hz, h⟩)
      · exact .inl (.inl h)
      · rcases List.mem_cons.1 hz with rfl | hz
        · exact .inl (.inr h)
        · exact .inr ⟨z, hz, h⟩
theorem deep_dep {cl : Nat → Nat → Int} {boxes : List Box} {h wd : Nat} (f : Flat cl boxes h wd) : ∀ (n r c ph pw : Nat), ph + pw < n → Whole cl h wd r c ph pw → ∀ d, (∃ e, deepO cl boxes n (r, c, ph, pw) = some e ∧ e ≤ d) ↔ Dep cl d (r, c, ph, pw) := by
  intro n
  induction n with
  | zero => intro r c ph pw h0; omega
  | succ n ih =>
    intro r c ph pw hlt hw d
    by_cases h1 : (listL boxes (natB r c ph pw) boxes.length).length = 1
    · have hs := (same_one f hw).1 h1
      unfold deepO
      rw [if_pos h1]
      exact ⟨fun _ => dep_same hs d, fun _ => ⟨0, rfl, Nat.zero_le _⟩⟩
    · have hs : ¬ SameAll cl (r, c, ph, pw) := fun g => h1 ((same_one f hw).2 g)
      unfold deepO
      rw [if_neg h1, foldD_iff]
      cases d with
      | zero =>
        constructor
        · rintro (⟨e, he, _⟩ | ⟨z, _, x, y, _, _, hd⟩)
          · cases he
          · omega
        · intro g; exact absurd g hs
      | succ d =>
        constructor
        · rintro (⟨e, he, _⟩ | ⟨z, hz, x, y, hx, hy, hd⟩)
          · cases he
          · obtain ⟨w1, w2⟩ := whole_parts f hw hz
            have i1 := (one_in hz).less
            have i2 := (two_in hz).less
            exact .inr ⟨z, hz, (ih _ _ _ _ (by omega) w1 d).1 ⟨x, hx, by omega⟩, (ih _ _ _ _ (by omega) w2 d).1 ⟨y, hy, by omega⟩⟩
        · rintro (g | ⟨z, hz, g1, g2⟩)
          · exact absurd g hs
          · change z ∈ cutsL cl r c ph pw at hz
            obtain ⟨w1, w2⟩ := whole_parts f hw hz
            have i1 := (one_in hz).less
            have i2 := (two_in hz).less
            obtain ⟨x, hx, hx'⟩ := (ih _ _ _ _ (by omega) w1 d).2 g1
            obtain ⟨y, hy, hy'⟩ := (ih _ _ _ _ (by omega) w2 d).2 g2
            exact .inr ⟨z, hz, x, y, hx, hy, by omega⟩
section
variable {cl cl' : Nat → Nat → Int} {h wd : Nat}
def backR (h : Nat) (R : Rc) : Rc := (h - R.2.1 - R.2.2.2, R.1, R.2.2.2, R.2.2.1)
theorem turn_dep (hs : ∀ i j i' j', i < wd → j < h → i' < wd → j' < h → (cl' i j = cl' i' j' ↔ cl (h - 1 - j) i = cl (h - 1 - j') i')) : ∀ (d r c ph pw : Nat), r + ph ≤ wd → c + pw ≤ h → 1 ≤ ph → 1 ≤ pw → (Dep cl' d (r, c, ph, pw) ↔ Dep cl d (backR h (r, c, ph, pw))) := by
  have same : ∀ r c ph pw, r + ph ≤ wd → c + pw ≤ h → (SameAll cl' (r, c, ph, pw) ↔ SameAll cl (backR h (r, c, ph, pw))) := by
    intro r c ph pw hr hc
    unfold SameAll backR InR
    dsimp only
    constructor
    · intro g i j i' j' g1 g2
      have := (hs j (h - 1 - i) j' (h - 1 - i') (by omega) (by omega) (by omega) (by omega)).1 (g j (h - 1 - i) j' (h - 1 - i') (by omega) (by omega))
      rwa [show h - 1 - (h - 1 - i) = i by omega, show h - 1 - (h - 1 - i') = i' by omega] at this
    · intro g i j i' j' g1 g2
      exact (hs i j i' j' (by omega) (by omega) (by omega) (by omega)).2 (g (h - 1 - j) i (h - 1 - j') i' (by omega) (by omega))
  intro d
  induction d with
  | zero => intro r c ph pw hr hc _ _; exact same r c ph pw hr hc
  | succ d ih =>
    intro r c ph pw hr hc h1 h2
    have lv : ∀ k, (true, k) ∈ cutsL cl' r c ph pw ↔ (false, k) ∈ cutsL cl (h - c - pw) r pw ph := by
      intro k
      rw [cuts_lv, cuts_up, throughL_iff, throughL_iff]
      unfold sidesL
      simp only [if_true, Bool.false_eq_true, if_false]
      constructor
      · rintro ⟨a, b, g⟩
        refine ⟨a, b, fun i hi e => g (pw - 1 - i) (by omega) ((hs _ _ _ _ (by omega) (by omega) (by omega) (by omega)).2 ?_)⟩
        rw [show h - 1 - (c + (pw - 1 - i)) = h - c - pw + i by omega]; exact e
      · rintro ⟨a, b, g⟩
        refine ⟨a, b, fun i hi e => g (pw - 1 - i) (by omega) ?_⟩
        have := (hs _ _ _ _ (by omega) (by omega) (by omega) (by omega)).1 e
        rwa [show h - 1 - (c + i) = h - c - pw + (pw - 1 - i) by omega] at this
    have upr : ∀ k, k ≤ h → ((false, k) ∈ cutsL cl' r c ph pw ↔ (true, h - k) ∈ cutsL cl (h - c - pw) r pw ph) := by
      intro k hk
      rw [cuts_lv, cuts_up, throughL_iff, throughL_iff]
      unfold sidesL
      simp only [if_true, Bool.false_eq_true, if_false]
      constructor
      · rintro ⟨a, b, g⟩
        refine ⟨by omega, by omega, fun i hi e => g i hi ((hs _ _ _ _ (by omega) (by omega) (by omega) (by omega)).2 ?_)⟩
        rw [show h - 1 - (k - 1) = h - k by omega, show h - 1 - k = h - k - 1 by omega]; exact e.symm
      · rintro ⟨a, b, g⟩
        refine ⟨by omega, by omega, fun i hi e => g i hi ?_⟩
        have := (hs _ _ _ _ (by omega) (by omega) (by omega) (by omega)).1 e
        rw [show h - 1 - (k - 1) = h - k by omega, show h - 1 - k = h - k - 1 by omega] at this
        exact this.symm
    show (SameAll cl' (r, c, ph, pw) ∨ ∃ x, x ∈ cutsL cl' r c ph pw ∧ Dep cl' d (oneR r c ph pw x) ∧ Dep cl' d (twoR r c ph pw x)) ↔ (SameAll cl (backR h (r, c, ph, pw)) ∨ ∃ x, x ∈ cutsL cl (h - c - pw) r pw ph ∧ Dep cl d (oneR (h - c - pw) r pw ph x) ∧ Dep cl d (twoR (h - c - pw) r pw ph x))
    refine or_congr (same r c ph pw hr hc) ?_
    have dl : ∀ k, r + 1 ≤ k → k < r + ph → ((Dep cl' d (oneR r c ph pw (true, k)) ∧ Dep cl' d (twoR r c ph pw (true, k))) ↔ (Dep cl d (oneR (h - c - pw) r pw ph (false, k)) ∧ Dep cl d (twoR (h - c - pw) r pw ph (false, k)))) := by
      intro k k1 k2
      refine and_congr (ih r c (k - r) pw (by omega) hc (by omega) h2) ?_
      exact ih k c (ph - (k - r)) pw (by omega) hc (by omega) h2
    have du : ∀ k, c + 1 ≤ k → k < c + pw → ((Dep cl' d (oneR r c ph pw (false, k)) ∧ Dep cl' d (twoR r c ph pw (false, k))) ↔ (Dep cl d (oneR (h - c - pw) r pw ph (true, h - k)) ∧ Dep cl d (twoR (h - c - pw) r pw ph (true, h - k)))) := by
      intro k k1 k2
      have e1 : backR h (oneR r c ph pw (false, k)) = twoR (h - c - pw) r pw ph (true, h - k) := by
        show (h - c - (k - c), r, k - c, ph) = (h - k, r, pw - ((h - k) - (h - c - pw)), ph)
        rw [show h - c - (k - c) = h - k by omega, show pw - ((h - k) - (h - c - pw)) = k - c by omega]
      have e2 : backR h (twoR r c ph pw (false, k)) = oneR (h - c - pw) r pw ph (true, h - k) := by
        show (h - k - (pw - (k - c)), r, pw - (k - c), ph) = (h - c - pw, r, (h - k) - (h - c - pw), ph)
        rw [show h - k - (pw - (k - c)) = h - c - pw by omega, show (h - k) - (h - c - pw) = pw - (k - c) by omega]
      have a1 := ih r c ph (k - c) hr (by omega) h1 (by omega)
      have a2 := ih r k ph (pw - (k - c)) hr (by omega) h1 (by omega)
      change Dep cl' d (oneR r c ph pw (false, k)) ↔ Dep cl d (backR h (oneR r c ph pw (false, k))) at a1
      change Dep cl' d (twoR r c ph pw (false, k)) ↔ Dep cl d (backR h (twoR r c ph pw (false, k))) at a2
      rw [a1, a2, e1, e2]
      exact and_comm
    constructor
    · rintro ⟨⟨b, k⟩, hx, g⟩
      cases b with
      | true =>
        have := (cuts_lv ..).1 hx
        exact ⟨(false, k), (lv k).1 hx, (dl k this.1 this.2.1).1 g⟩
      | false =>
        have := (cuts_up ..).1 hx
        exact ⟨(true, h - k), (upr k (by omega)).1 hx, (du k this.1 this.2.1).1 g⟩
    · rintro ⟨⟨b, k⟩, hx, g⟩
      cases b with
      | false =>
        have := (cuts_up ..).1 hx
        exact ⟨(true, k), (lv k).2 hx, (dl k this.1 this.2.1).2 g⟩
      | true =>
        have := (cuts_lv ..).1 hx
        have e : h - (h - k) = k := by omega
        refine ⟨(false, h - k), (upr (h - k) (by omega)).2 (by rw [e]; exact hx), (du (h - k) (by omega) (by omega)).2 (by rw [e]; exact g)⟩
end
theorem deep_le {cl cl' : Nat → Nat → Int} {o o' : Option Nat} (g : ∀ d, (∃ e, o = some e ∧ e ≤ d) ↔ (∃ e, o' = some e ∧ e ≤ d)) : o = o' := by
  cases o with
  | none =>
    cases o' with
    | none => rfl
    | some e' => obtain ⟨e, h, _⟩ := (g e').2 ⟨e', rfl, Nat.le_refl _⟩; cases h
  | some e =>
    obtain ⟨a, ha, hle⟩ := (g e).1 ⟨e, rfl, Nat.le_refl _⟩
    subst ha
    obtain ⟨b, hb, hle2⟩ := (g a).2 ⟨a, rfl, Nat.le_refl _⟩
    obtain rfl := Option.some.inj hb
    rw [show e = a by omega]
theorem deepP_turn {p q : List ByteArray} (hp : planG p = true) (hq : Planned (fun r c => clP p (p.length - 1 - c) r) (wdP p) p.length q) : deepP q = deepP p := by
  have f := planFlat hp
  have f' := planFlat hq.plan
  have hh := f.high
  have hw := f.wide
  refine deep_le (cl := clP p) (cl' := clP p) fun d => ?_
  unfold deepP
  rw [deep_dep f 13 0 0 p.length (wdP p) (by omega) f.whole d]
  have h2 := deep_dep f' 13 0 0 q.length (wdP q) (by rw [hq.high, hq.wide]; omega) f'.whole d
  rw [h2, hq.high, hq.wide, turn_dep hq.same d 0 0 (wdP p) p.length (by omega) (by omega) hw.1 hh.1]
  unfold backR
  dsimp only
  rw [show p.length - 0 - p.length = 0 by omega]
end Go.Proofs.Ytdhnjecbdclmaaa
end
section
namespace Go.Proofs.Ytdhnjecbdclmaaa
open Go.RowKit Go.Shelf Go.Proofs.YtdhnjecbdclmaaaW.PrintWords Go.Proofs.YtdhnjecbdclmaaaW.PrintMore
set_option linter.unusedVariables false
set_option linter.unusedSimpArgs false
section
variable {cl cl' : Nat → Nat → Int} {h wd : Nat}
def backF (wd : Nat) (R : Rc) : Rc := (R.1, wd - R.2.1 - R.2.2.2, R.2.2.1, R.2.2.2)
theorem flip_dep (hs : ∀ i j i' j', i < h → j < wd → i' < h → j' < wd → (cl' i j = cl' i' j' ↔ cl i (wd - 1 - j) = cl i' (wd - 1 - j'))) : ∀ (d r c ph pw : Nat), r + ph ≤ h → c + pw ≤ wd → 1 ≤ ph → 1 ≤ pw → (Dep cl' d (r, c, ph, pw) ↔ Dep cl d (backF wd (r, c, ph, pw))) := by
  have same : ∀ r c ph pw, r + ph ≤ h → c + pw ≤ wd → (SameAll cl' (r, c, ph, pw) ↔ SameAll cl (backF wd (r, c, ph, pw))) := by
    intro r c ph pw hr hc
    unfold SameAll backF InR
    dsimp only
    constructor
    · intro g i j i' j' g1 g2
      have := (hs i (wd - 1 - j) i' (wd - 1 - j') (by omega) (by omega) (by omega) (by omega)).1 (g i (wd - 1 - j) i' (wd - 1 - j') (by omega) (by omega))
      rwa [show wd - 1 - (wd - 1 - j) = j by omega, show wd - 1 - (wd - 1 - j') = j' by omega] at this
    · intro g i j i' j' g1 g2
      exact (hs i j i' j' (by omega) (by omega) (by omega) (by omega)).2 (g i (wd - 1 - j) i' (wd - 1 - j') (by omega) (by omega))
  intro d
  induction d with
  | zero => intro r c ph pw hr hc _ _; exact same r c ph pw hr hc
  | succ d ih =>
    intro r c ph pw hr hc h1 h2
    have lv : ∀ k, (true, k) ∈ cutsL cl' r c ph pw ↔ (true, k) ∈ cutsL cl r (wd - c - pw) ph pw := by
      intro k
      rw [cuts_lv, cuts_lv, throughL_iff, throughL_iff]
      unfold sidesL
      simp only [if_true]
      constructor
      · rintro ⟨a, b, g⟩
        refine ⟨a, b, fun i hi e => g (pw - 1 - i) (by omega) ((hs _ _ _ _ (by omega) (by omega) (by omega) (by omega)).2 ?_)⟩
        rw [show wd - 1 - (c + (pw - 1 - i)) = wd - c - pw + i by omega]; exact e
      · rintro ⟨a, b, g⟩
        refine ⟨a, b, fun i hi e => g (pw - 1 - i) (by omega) ?_⟩
        have := (hs _ _ _ _ (by omega) (by omega) (by omega) (by omega)).1 e
        rwa [show wd - 1 - (c + i) = wd - c - pw + (pw - 1 - i) by omega] at this
    have upr : ∀ k, k ≤ wd → ((false, k) ∈ cutsL cl' r c ph pw ↔ (false, wd - k) ∈ cutsL cl r (wd - c - pw) ph pw) := by
      intro k hk
      rw [cuts_up, cuts_up, throughL_iff, throughL_iff]
      unfold sidesL
      simp only [Bool.false_eq_true, if_false]
      constructor
      · rintro ⟨a, b, g⟩
        refine ⟨by omega, by omega, fun i hi e => g i hi ((hs _ _ _ _ (by omega) (by omega) (by omega) (by omega)).2 ?_)⟩
        rw [show wd - 1 - (k - 1) = wd - k by omega, show wd - 1 - k = wd - k - 1 by omega]; exact e.symm
      · rintro ⟨a, b, g⟩
        refine ⟨by omega, by omega, fun i hi e => g i hi ?_⟩
        have := (hs _ _ _ _ (by omega) (by omega) (by omega) (by omega)).1 e
        rw [show wd - 1 - (k - 1) = wd - k by omega, show wd - 1 - k = wd - k - 1 by omega] at this
        exact this.symm
    show (SameAll cl' (r, c, ph, pw) ∨ ∃ x, x ∈ cutsL cl' r c ph pw ∧ Dep cl' d (oneR r c ph pw x) ∧ Dep cl' d (twoR r c ph pw x)) ↔ (SameAll cl (backF wd (r, c, ph, pw)) ∨ ∃ x, x ∈ cutsL cl r (wd - c - pw) ph pw ∧ Dep cl d (oneR r (wd - c - pw) ph pw x) ∧ Dep cl d (twoR r (wd - c - pw) ph pw x))
    refine or_congr (same r c ph pw hr hc) ?_
    have dl : ∀ k, r + 1 ≤ k → k < r + ph → ((Dep cl' d (oneR r c ph pw (true, k)) ∧ Dep cl' d (twoR r c ph pw (true, k))) ↔ (Dep cl d (oneR r (wd - c - pw) ph pw (true, k)) ∧ Dep cl d (twoR r (wd - c - pw) ph pw (true, k)))) := by
      intro k k1 k2
      refine and_congr (ih r c (k - r) pw (by omega) hc (by omega) h2) ?_
      exact ih k c (ph - (k - r)) pw (by omega) hc (by omega) h2
    have du : ∀ k, c + 1 ≤ k → k < c + pw → ((Dep cl' d (oneR r c ph pw (false, k)) ∧ Dep cl' d (twoR r c ph pw (false, k))) ↔ (Dep cl d (oneR r (wd - c - pw) ph pw (false, wd - k)) ∧ Dep cl d (twoR r (wd - c - pw) ph pw (false, wd - k)))) := by
      intro k k1 k2
      have e1 : backF wd (oneR r c ph pw (false, k)) = twoR r (wd - c - pw) ph pw (false, wd - k) := by
        show (r, wd - c - (k - c), ph, k - c) = (r, wd - k, ph, pw - ((wd - k) - (wd - c - pw)))
        rw [show wd - c - (k - c) = wd - k by omega, show pw - ((wd - k) - (wd - c - pw)) = k - c by omega]
      have e2 : backF wd (twoR r c ph pw (false, k)) = oneR r (wd - c - pw) ph pw (false, wd - k) := by
        show (r, wd - k - (pw - (k - c)), ph, pw - (k - c)) = (r, wd - c - pw, ph, (wd - k) - (wd - c - pw))
        rw [show wd - k - (pw - (k - c)) = wd - c - pw by omega, show (wd - k) - (wd - c - pw) = pw - (k - c) by omega]
      have a1 := ih r c ph (k - c) hr (by omega) h1 (by omega)
      have a2 := ih r k ph (pw - (k - c)) hr (by omega) h1 (by omega)
      change Dep cl' d (oneR r c ph pw (false, k)) ↔ Dep cl d (backF wd (oneR r c ph pw (false, k))) at a1
      change Dep cl' d (twoR r c ph pw (false, k)) ↔ Dep cl d (backF wd (twoR r c ph pw (false, k))) at a2
      rw [a1, a2, e1, e2]
      exact and_comm
    constructor
    · rintro ⟨⟨b, k⟩, hx, g⟩
      cases b with
      | true =>
        have := (cuts_lv ..).1 hx
        exact ⟨(true, k), (lv k).1 hx, (dl k this.1 this.2.1).1 g⟩
      | false =>
        have := (cuts_up ..).1 hx
        exact ⟨(false, wd - k), (upr k (by omega)).1 hx, (du k this.1 this.2.1).1 g⟩
    · rintro ⟨⟨b, k⟩, hx, g⟩
      cases b with
      | true =>
        have := (cuts_lv ..).1 hx
        exact ⟨(true, k), (lv k).2 hx, (dl k this.1 this.2.1).2 g⟩
      | false =>
        have := (cuts_up ..).1 hx
        have e : wd - (wd - k) = k := by omega
        refine ⟨(false, wd - k), (upr (wd - k) (by omega)).2 (by rw [e]; exact hx), (du (wd - k) (by omega) (by omega)).2 (by rw [e]; exact g)⟩
end
theorem deepP_flip {p q : List ByteArray} (hp : planG p = true) (hq : Planned (fun r c => clP p r (wdP p - 1 - c)) p.length (wdP p) q) : deepP q = deepP p := by
  have f := planFlat hp
  have f' := planFlat hq.plan
  have hh := f.high
  have hw := f.wide
  refine deep_le (cl := clP p) (cl' := clP p) fun d => ?_
  unfold deepP
  rw [deep_dep f 13 0 0 p.length (wdP p) (by omega) f.whole d]
  have h2 := deep_dep f' 13 0 0 q.length (wdP q) (by rw [hq.high, hq.wide]; omega) f'.whole d
  rw [h2, hq.high, hq.wide, flip_dep hq.same d 0 0 p.length (wdP p) (by omega) (by omega) hh.1 hw.1]
  unfold backF
  dsimp only
  rw [show wdP p - 0 - wdP p = 0 by omega]
theorem cut_of_deep {p q : List ByteArray} (hp : planG p = true) (hq : planG q = true) (h : deepP q = deepP p) : (cutTextP q).2 = (cutTextP p).2 := by
  unfold cutTextP
  rw [if_pos hp, if_pos hq]
  show (cutTextO q).isSome = (cutTextO p).isSome
  rw [deep_text hp, deep_text hq, h]
theorem cut_turn {p q : List ByteArray} (hp : planG p = true) (hq : Planned (fun r c => clP p (p.length - 1 - c) r) (wdP p) p.length q) : (cutTextP q).2 = (cutTextP p).2 := cut_of_deep hp hq.plan (deepP_turn hp hq)
theorem cut_flip {p q : List ByteArray} (hp : planG p = true) (hq : Planned (fun r c => clP p r (wdP p - 1 - c)) p.length (wdP p) q) : (cutTextP q).2 = (cutTextP p).2 := cut_of_deep hp hq.plan (deepP_flip hp hq)
end Go.Proofs.Ytdhnjecbdclmaaa
end
section
namespace Go.Proofs.Ytdhnjecbdclmaaa
open Go.RowKit Go.Shelf Go.Proofs.YtdhnjecbdclmaaaW.PrintWords Go.Proofs.YtdhnjecbdclmaaaW.PrintMore
set_option linter.unusedVariables false
def MadeE (cl : Nat → Nat → Int) (h wd : Nat) (w w' : World) (e : Ending) : Prop := ∃ (q : List ByteArray) (A : Option Addr) (c : Nat), e = .returned (.tuple #[.slice A q.length c, .bool true]) ∧ Aside0 (Planned cl h wd q ∧ SmallP q ∧ q.length ≤ c ∧ Kd.C Kd.string w' A q.length q ∧ Below w.heap.size w w')
theorem RemadeE.made {cl : Nat → Nat → Int} {h wd : Nat} {p : List ByteArray} {R : List (List Int)} {w w' : World} {e : Ending} (hp : planG p = true) (hq : ∃ q, planV R = (q, true) ∧ Planned cl h wd q) (hr : RemadeE p R w w' e) : MadeE cl h wd w w' e := by
  obtain ⟨q, hv, hpl⟩ := hq
  obtain ⟨⟨A, c, V, hV, he, hc, hC⟩, hb⟩ := hr
  rw [if_pos hp, hv] at hV
  subst hV
  exact ⟨q, A, c, he, ⟨hpl, plan_small hpl.plan, hc, hC, hb⟩⟩
theorem planTurn_is (A : Option Addr) (cap : Nat) (p : List ByteArray) (hp : SmallP p) (hpl : planG p = true) (w : World) (hr0 : Kd.C Kd.string w A p.length p) (hc0 : p.length ≤ cap) :
    Calls Try.prog 47 #[.slice A p.length cap] w fun e w' => MadeE (fun r c => clP p (p.length - 1 - c) r) (wdP p) p.length w w' e :=
  (planTurn_any A cap p hp w hr0 hc0).mono fun e w' h => RemadeE.made hpl (turn_plan hpl) h
theorem planFlip_is (A : Option Addr) (cap : Nat) (p : List ByteArray) (hp : SmallP p) (hpl : planG p = true) (w : World) (hr0 : Kd.C Kd.string w A p.length p) (hc0 : p.length ≤ cap) :
    Calls Try.prog 50 #[.slice A p.length cap] w fun e w' => MadeE (fun r c => clP p r (wdP p - 1 - c)) p.length (wdP p) w w' e :=
  (planFlip_any A cap p hp w hr0 hc0).mono fun e w' h => RemadeE.made hpl (flip_plan hpl) h
end Go.Proofs.Ytdhnjecbdclmaaa
end
section
namespace Go.Proofs.Ytdhnjecbdclmaaa
open Go.RowKit Go.Shelf Go.Proofs.YtdhnjecbdclmaaaW.PrintWords Go.Proofs.YtdhnjecbdclmaaaW.PrintMore
set_option linter.unusedVariables false
set_option linter.unusedSimpArgs false
def besV (cf : Nat → Nat → Int) (n wf : Nat) (cg : Nat → Nat → Int) (r c : Nat) : Int := if c < wf then cf r c else (n : Int) + cg r (c - wf)
set_option maxRecDepth 100000 in
set_option maxHeartbeats 8000000 in
theorem beside1_any (bf bg ff fg h wf wg : Nat) (cf cg : Nat → Nat → Int) (xf xg : List Box) (r c : Nat) (hr : r < h) (hc : c < wf + wg) (hh : h ≤ 6) (hwf : 1 ≤ wf ∧ wf ≤ 6) (hwg : wg ≤ 6) (hx : xf.length ≤ 9) (hcg : ∀ i j, i < h → j < wg → 0 ≤ cg i j ∧ cg i j ≤ 1000) (w : World) (hf : FloorR w ff h wf cf xf) (hg : FloorR w fg h wg cg xg) (hb : w.cell? ⟨bf, 0, none⟩ = some (.pointer (some ⟨ff, 0, none⟩))) (hb2 : w.cell? ⟨bg, 0, none⟩ = some (.pointer (some ⟨fg, 0, none⟩))) :
    Calls Try.prog 185 #[.int .i64 r, .int .i64 c, .pointer (some ⟨bf, 0, none⟩), .pointer (some ⟨bg, 0, none⟩)] w fun e w' => e = .returned (.int .i64 (besV cf xf.length wf cg r c)) ∧ Below w.heap.size w w' := by
  obtain ⟨g, rb, RA, rc, h1, h2, h3, h4, h5, h6⟩ := hf
  obtain ⟨g', rb', RA', rc', k1, k2, k3, k4, k5, k6⟩ := hg
  obtain ⟨b1, b2, b3⟩ := h5 0 (by omega)
  have n4 : (r : Int) < (h : Int) := by omega
  have HWI : Aside0 (∀ W, W.cell? ⟨ff, 0, none⟩ = some (.slice (some ⟨g, 0, none⟩) h h) → W.cell? ⟨g, 0, none⟩ = some (.slice (some ⟨rb 0, 0, none⟩) wf wf) → Calls Try.prog 113 #[.pointer (some ⟨ff, 0, none⟩)] W fun e w' => e = .returned (.int .i64 wf) ∧ w' = W) := ⟨fun W hW hW2 => wide_any _ g h h (by omega) _ wf wf W hW hW2⟩
  by_cases hlt : c < wf
  · obtain ⟨a1, a2, a3⟩ := h5 r hr
    have f0 := a3 c hlt
    obtain ⟨q, hq⟩ : ∃ q, rb r = q := ⟨_, rfl⟩
    rw [hq] at a2 f0
    obtain ⟨v, hv⟩ : ∃ v, cf r c = v := ⟨_, rfl⟩
    rw [hv] at f0
    have HV : Aside0 (besV cf xf.length wf cg r c = v) := ⟨by unfold besV; rw [if_pos hlt, hv]⟩
    have n5 : (c : Int) < (wf : Int) := by omega
    clear h5 h6 k5 k6 a1 a3 hq hv h4 h1 h2 b1 b3 k1 k2 k3 k4 hcg
    go_enter Try.func185, Try.ntmps185
    go_wp2_with fail
    refine Calls.mono (HWI.out _ h3 b2) ?_
    rintro e w3 ⟨rfl, rfl⟩
    go_wp2_with fail
    go_ret
    exact ⟨by rw [HV.out]; rfl, by repeat (first | exact Below.refl _ _ | apply pw_below_drewN)⟩
  · obtain ⟨a1, a2, a3⟩ := k5 r hr
    have f0 := a3 (c - wf) (by omega)
    have hvb := hcg r (c - wf) hr (by omega)
    obtain ⟨q, hq⟩ : ∃ q, rb' r = q := ⟨_, rfl⟩
    rw [hq] at a2 f0
    obtain ⟨v, hv⟩ : ∃ v, cg r (c - wf) = v := ⟨_, rfl⟩
    rw [hv] at f0 hvb
    have HV : Aside0 (besV cf xf.length wf cg r c = (xf.length : Int) + v) := ⟨by unfold besV; rw [if_neg hlt, hv]⟩
    obtain ⟨n, hn⟩ : ∃ n, xf.length = n := ⟨_, rfl⟩
    rw [hn] at hx HV h4
    have HN := Aside0.mk hn
    have n1 : (wf : Int) ≤ (c : Int) := by omega
    have n2 : (c : Int) - (wf : Int) < (wg : Int) := by omega
    have n3 : (0 : Int) ≤ (c : Int) - (wf : Int) := by omega
    have w1 : IntKind.i64.wrap ((c : Int) - (wf : Int)) = (c : Int) - (wf : Int) := by rw [IntKind.wrap_i64]; omega
    have w2 : wrap64 ((c : Int) - (wf : Int)) = (c : Int) - (wf : Int) := by unfold wrap64; omega
    have w3 : IntKind.i64.wrap ((n : Int) + v) = (n : Int) + v := by rw [IntKind.wrap_i64]; omega
    have w4 : wrap64 ((n : Int) + v) = (n : Int) + v := by unfold wrap64; omega
    have n6 : ¬ (c : Int) < (wf : Int) := by omega
    clear h5 h6 k5 k6 a1 a3 hq hv h1 h2 b1 b3 k1 k2 k4 hcg hn
    go_enter Try.func185, Try.ntmps185
    go_wp2_with fail
    refine Calls.mono (HWI.out _ h3 b2) ?_
    rintro e w3 ⟨rfl, rfl⟩
    go_wp2_with fail
    go_region_held3 (fun w' => w'.cell? ⟨bf, 0, none⟩ = some (.pointer (some ⟨ff, 0, none⟩)) ∧ w'.cell? ⟨bg, 0, none⟩ = some (.pointer (some ⟨fg, 0, none⟩)) ∧ w'.cell? ⟨ff, 1, none⟩ = some (.slice RA n rc) ∧ w'.cell? ⟨fg, 0, none⟩ = some (.slice (some ⟨g', 0, none⟩) h h) ∧ w'.cell? ⟨g', r, none⟩ = some (.slice (some ⟨q, 0, none⟩) wg wg) ∧ w'.cell? ⟨q, c - wf, none⟩ = some (.int .i64 v)) (first
      | exact ⟨hb, hb2, h4, k3, a2, f0⟩
      | (go_simp)) ((go_at_call 113; refine Calls.mono (HWI.out _ h3 b2) ?_; rintro e w3 ⟨rfl, rfl⟩))
    all_goals
      go_wp2_with fail
      go_ret
      exact ⟨by rw [HN.out, HV.out]; rfl, by repeat (first | exact Below.refl _ _ | apply pw_below_drewN)⟩
theorem enter_bs (args : Array Value) (W : World) : (callFunc 185 args).run Try.prog W = .ok (.enter 185 args) W := by kernel_rfl
set_option maxRecDepth 100000 in
set_option maxHeartbeats 1000000 in
theorem beside_any (ff fg h wf wg : Nat) (cf cg : Nat → Nat → Int) (xf xg : List Box) (hh : 1 ≤ h ∧ h ≤ 6) (hwf : 1 ≤ wf ∧ wf ≤ 6) (hwg : 1 ≤ wg ∧ wg ≤ 6) (hx : xf.length ≤ 9) (hcg : ∀ i j, i < h → j < wg → 0 ≤ cg i j ∧ cg i j ≤ 1000) (w : World) (hf : FloorR w ff h wf cf xf) (hg : FloorR w fg h wg cg xg) :
    Calls Try.prog 121 #[.pointer (some ⟨ff, 0, none⟩), .pointer (some ⟨fg, 0, none⟩)] w fun e w' => Grown w w' h (wf + wg) (besV cf xf.length wf cg) e := by
  obtain ⟨W2, hW2⟩ : ∃ W2, ((w.alloc (.cells #[.pointer (some ⟨ff, 0, none⟩)] 51)).alloc (.cells #[.pointer (some ⟨fg, 0, none⟩)] 51)) = W2 := ⟨_, rfl⟩
  have hs1 : (w.alloc (.cells #[.pointer (some ⟨ff, 0, none⟩)] 51)).heap.size = w.heap.size + 1 := by simp
  have hB0 : Below w.heap.size w (w.alloc (.cells #[.pointer (some ⟨ff, 0, none⟩)] 51)) := (Below.refl _ _).alloc (Nat.le_refl _) _
  have hB2 : Below w.heap.size w W2 := by rw [← hW2]; exact hB0.alloc (by omega) _
  have hz2 : W2.heap.size = w.heap.size + 2 := by rw [← hW2]; simp
  have HF := Aside0.mk (hf.below hB2)
  have HG := Aside0.mk (hg.below hB2)
  have hcf : W2.cell? ⟨w.heap.size, 0, none⟩ = some (.pointer (some ⟨ff, 0, none⟩)) := by
    rw [← hW2]
    have : Below (w.heap.size + 1) (w.alloc (.cells #[.pointer (some ⟨ff, 0, none⟩)] 51)) ((w.alloc (.cells #[.pointer (some ⟨ff, 0, none⟩)] 51)).alloc (.cells #[.pointer (some ⟨fg, 0, none⟩)] 51)) := by rw [← hs1]; exact (Below.refl _ _).alloc (Nat.le_refl _) _
    rw [this.cell (p := ⟨w.heap.size, 0, none⟩) (by show w.heap.size < w.heap.size + 1; omega), Lib.cell_of_heap (heap_alloc_new w _)]; rfl
  have hcg2 : W2.cell? ⟨w.heap.size + 1, 0, none⟩ = some (.pointer (some ⟨fg, 0, none⟩)) := by
    rw [← hW2, ← hs1, Lib.cell_of_heap (heap_alloc_new _ _)]; rfl
  obtain ⟨g, rb, RA, rc, h1, h2, h3, h4, h5, h6⟩ := HF.out
  obtain ⟨g', rb', RA', rc', k1, k2, k3, k4, k5, k6⟩ := HG.out
  obtain ⟨b1, b2, b3⟩ := h5 0 (by omega)
  obtain ⟨d1, d2, d3⟩ := k5 0 (by omega)
  have HHI : Aside0 (∀ W, W.cell? ⟨ff, 0, none⟩ = some (.slice (some ⟨g, 0, none⟩) h h) → Calls Try.prog 120 #[.pointer (some ⟨ff, 0, none⟩)] W fun e w' => e = .returned (.int .i64 h) ∧ w' = W) := ⟨fun W hW => high_any _ _ h h W hW⟩
  have HWI : Aside0 (∀ W, W.cell? ⟨ff, 0, none⟩ = some (.slice (some ⟨g, 0, none⟩) h h) → W.cell? ⟨g, 0, none⟩ = some (.slice (some ⟨rb 0, 0, none⟩) wf wf) → Calls Try.prog 113 #[.pointer (some ⟨ff, 0, none⟩)] W fun e w' => e = .returned (.int .i64 wf) ∧ w' = W) := ⟨fun W hW hW2 => wide_any _ g h h hh.1 _ wf wf W hW hW2⟩
  have HWG : Aside0 (∀ W, W.cell? ⟨fg, 0, none⟩ = some (.slice (some ⟨g', 0, none⟩) h h) → W.cell? ⟨g', 0, none⟩ = some (.slice (some ⟨rb' 0, 0, none⟩) wg wg) → Calls Try.prog 113 #[.pointer (some ⟨fg, 0, none⟩)] W fun e w' => e = .returned (.int .i64 wg) ∧ w' = W) := ⟨fun W hW hW2 => wide_any _ g' h h hh.1 _ wg wg W hW hW2⟩
  have HBL : Aside0 (∀ W, Below W2.heap.size W2 W → Calls Try.prog 116 #[.int .i64 h, .int .i64 ((wf : Int) + (wg : Int)), .func (.func 185) #[] #[.pointer (some ⟨w.heap.size, 0, none⟩), .pointer (some ⟨w.heap.size + 1, 0, none⟩)]] W fun e w' => Grown W w' h (wf + wg) (besV cf xf.length wf cg) e) := ⟨fun W hW => by
    have := blank_ro h (wf + wg) ⟨by omega, by omega⟩ ⟨by omega, by omega⟩ 185 #[.pointer (some ⟨w.heap.size, 0, none⟩), .pointer (some ⟨w.heap.size + 1, 0, none⟩)] (besV cf xf.length wf cg) W enter_bs (fun r c W' hr hc hB => by
      have hB' := hW.trans (hB.mono hW.size)
      exact beside1_any w.heap.size (w.heap.size + 1) ff fg h wf wg cf cg xf xg r c hr hc hh.2 hwf hwg.2 hx hcg W' (HF.out.below hB') (HG.out.below hB') ((hB'.cell (p := ⟨w.heap.size, 0, none⟩) (by show w.heap.size < W2.heap.size; omega)).trans hcf) ((hB'.cell (p := ⟨w.heap.size + 1, 0, none⟩) (by show w.heap.size + 1 < W2.heap.size; omega)).trans hcg2))
    rwa [Int.natCast_add] at this⟩
  have w1 : IntKind.i64.wrap ((wf : Int) + (wg : Int)) = (wf : Int) + (wg : Int) := by rw [IntKind.wrap_i64]; omega
  have w2 : wrap64 ((wf : Int) + (wg : Int)) = (wf : Int) + (wg : Int) := by unfold wrap64; omega
  have HB2 := Aside0.mk hB2
  clear h5 h6 k5 k6 h1 h2 k1 k2 h4 k4 b1 b3 d1 d3 hB0 hB2 HF HG hcg hf hg
  have hh1 := hh.1
  have HZ := Aside0.mk hz2
  have HH3 := Aside0.mk h3
  have HH4 := Aside0.mk b2
  have HH5 := Aside0.mk k3
  have HH6 := Aside0.mk d2
  have HCF := Aside0.mk (And.intro hcf hcg2)
  have HWS : Aside0 (W2.cell? ⟨ff, 0, none⟩ = some (.slice (some ⟨g, 0, none⟩) h h) ∧ W2.cell? ⟨g, 0, none⟩ = some (.slice (some ⟨rb 0, 0, none⟩) wf wf) ∧ W2.cell? ⟨fg, 0, none⟩ = some (.slice (some ⟨g', 0, none⟩) h h) ∧ W2.cell? ⟨g', 0, none⟩ = some (.slice (some ⟨rb' 0, 0, none⟩) wg wg)) := ⟨h3, b2, k3, d2⟩
  have HWW : Aside0 (∀ (b n : Nat), (b = ff ∧ n = wf ∨ b = fg ∧ n = wg) → ∀ W, (W.cell? ⟨ff, 0, none⟩ = some (.slice (some ⟨g, 0, none⟩) h h) ∧ W.cell? ⟨g, 0, none⟩ = some (.slice (some ⟨rb 0, 0, none⟩) wf wf) ∧ W.cell? ⟨fg, 0, none⟩ = some (.slice (some ⟨g', 0, none⟩) h h) ∧ W.cell? ⟨g', 0, none⟩ = some (.slice (some ⟨rb' 0, 0, none⟩) wg wg)) → Calls Try.prog 113 #[.pointer (some ⟨b, 0, none⟩)] W fun e w' => e = .returned (.int .i64 n) ∧ w' = W) := ⟨fun b n hbn W hW => by
    rcases hbn with ⟨rfl, rfl⟩ | ⟨rfl, rfl⟩
    · exact HWI.out W hW.1 hW.2.1
    · exact HWG.out W hW.2.2.1 hW.2.2.2⟩
  clear hz2 hs1 h3 b2 k3 d2 hcf hcg2
  go_enter Try.func121, Try.ntmps121
  go_wp2_with fail
  clear hW2
  go_region_held3 (fun w' => w'.cell? ⟨w.heap.size, 0, none⟩ = some (.pointer (some ⟨ff, 0, none⟩)) ∧ w'.cell? ⟨w.heap.size + 1, 0, none⟩ = some (.pointer (some ⟨fg, 0, none⟩))) (first
    | exact HCF.out
    | exact hc4
    | (go_simp)) (first
    | (go_at_call 120; refine Calls.mono (HHI.out _ HH3.out) ?_; rintro e w3 ⟨rfl, rfl⟩)
    | (go_at_call 113; refine Calls.mono (HWW.out _ _ (by first | exact .inl ⟨rfl, rfl⟩ | exact .inr ⟨rfl, rfl⟩) _ HWS.out) ?_; rintro e w3 ⟨rfl, rfl⟩)
    | (go_at_call 116; refine Calls.mono (HBL.out _ (by repeat (first | exact Below.refl _ _ | apply pw_below_drewN))) ?_; rintro e w4 ⟨gb, rows, rfl, g1, g2, g3⟩; have hc4 : w4.cell? ⟨w.heap.size, 0, none⟩ = some (.pointer (some ⟨ff, 0, none⟩)) ∧ w4.cell? ⟨w.heap.size + 1, 0, none⟩ = some (.pointer (some ⟨fg, 0, none⟩)) := ⟨(g3.cell (p := ⟨w.heap.size, 0, none⟩) (by show w.heap.size < _; exact Nat.lt_of_lt_of_eq (by omega) HZ.out.symm)).trans HCF.out.1, (g3.cell (p := ⟨w.heap.size + 1, 0, none⟩) (by show w.heap.size + 1 < _; exact Nat.lt_of_lt_of_eq (by omega) HZ.out.symm)).trans HCF.out.2⟩; have HG := Aside0.mk (And.intro g1 (And.intro g2 g3)); clear g1 g2 g3))
  all_goals
    go_wp2_with fail
    go_ret
    exact ⟨gb, rows, rfl, HG.out.1, HG.out.2.1, Below.trans (by repeat (first | exact HB2.out | apply pw_below_drewN)) (HG.out.2.2.mono HB2.out.size)⟩
end Go.Proofs.Ytdhnjecbdclmaaa
end
section
namespace Go.Proofs.Ytdhnjecbdclmaaa
open Go.RowKit Go.Shelf Go.Proofs.YtdhnjecbdclmaaaW.PrintWords Go.Proofs.YtdhnjecbdclmaaaW.PrintMore
set_option linter.unusedVariables false
set_option linter.unusedSimpArgs false
set_option maxRecDepth 100000 in
set_option maxHeartbeats 2000000 in
theorem fit_any (ff fg h wf wg : Nat) (cf cg : Nat → Nat → Int) (xf xg : List Box) (w : World) (hf : FloorR w ff h wf cf xf) (hg : FloorR w fg h wg cg xg) :
    Calls Try.prog 119 #[.pointer (some ⟨ff, 0, none⟩), .pointer (some ⟨fg, 0, none⟩)] w fun e w' => e = .returned (.bool true) ∧ Below w.heap.size w w' := by
  obtain ⟨g, rb, RA, rc, h1, h2, h3, h4, h5, h6⟩ := hf
  obtain ⟨g', rb', RA', rc', k1, k2, k3, k4, k5, k6⟩ := hg
  have HWS : Aside0 (w.cell? ⟨ff, 0, none⟩ = some (.slice (some ⟨g, 0, none⟩) h h) ∧ w.cell? ⟨fg, 0, none⟩ = some (.slice (some ⟨g', 0, none⟩) h h)) := ⟨h3, k3⟩
  have HWW : Aside0 (∀ (b : Nat), (b = ff ∨ b = fg) → ∀ W, (W.cell? ⟨ff, 0, none⟩ = some (.slice (some ⟨g, 0, none⟩) h h) ∧ W.cell? ⟨fg, 0, none⟩ = some (.slice (some ⟨g', 0, none⟩) h h)) → Calls Try.prog 120 #[.pointer (some ⟨b, 0, none⟩)] W fun e w' => e = .returned (.int .i64 h) ∧ w' = W) := ⟨fun b hbn W hW => by
    rcases hbn with rfl | rfl
    · exact high_any _ _ h h W hW.1
    · exact high_any _ _ h h W hW.2⟩
  clear h1 h2 h3 h4 h5 h6 k1 k2 k3 k4 k5 k6
  go_enter Try.func119, Try.ntmps119
  go_wp2_with fail
  refine Calls.mono (HWW.out _ (by first | exact .inl rfl | exact .inr rfl) _ HWS.out) ?_
  rintro e w3 ⟨rfl, rfl⟩
  go_wp2_with fail
  refine Calls.mono (HWW.out _ (by first | exact .inl rfl | exact .inr rfl) _ HWS.out) ?_
  rintro e w3 ⟨rfl, rfl⟩
  go_wp2_with fail
  go_ret
  exact ⟨by simp, by repeat (first | exact Below.refl _ _ | apply pw_below_drewN)⟩
def besideR (p : List ByteArray) : List (List Int) := gridV p.length (wdP p + wdP p) (besV (clP p) (boxesP p).length (wdP p) (clP p))
set_option maxRecDepth 100000 in
set_option maxHeartbeats 2000000 in
theorem joined_beside (A : Option Addr) (cap : Nat) (p : List ByteArray) (hp : SmallP p) (hpl : planG p = true) (w : World) (hr0 : Kd.C Kd.string w A p.length p) (hc0 : p.length ≤ cap) :
    Calls Try.prog 118 #[.slice A p.length cap, .slice A p.length cap, .func (.func 119) #[] #[], .func (.func 121) #[] #[]] w fun e w' => RemadeE p (besideR p) w w' e := by
  have HFL := floorOf_any A cap p hp.1 hp.2 w hr0 hc0
  have HFL2 := Aside0.mk (fun W (hW : Below w.heap.size w W) => floorOf_any A cap p hp.1 hp.2 W (Kd.C_below hr0 hW) hc0)
  have HPL := Aside0.mk hpl
  clear hr0 hpl
  go_enter Try.func118, Try.ntmps118
  go_wp2_with fail
  refine HFL.mono ?_
  rintro e w1 ⟨hb1, ⟨hpl, fb, base, rfl, hbase, hfl⟩ | ⟨hpl, o, rfl⟩⟩
  · have HB1 := Aside0.mk hb1
    have HF1 := Aside0.mk hfl.reads
    clear hb1 hpl hfl hbase
    go_wp2_with fail
    refine (HFL2.out _ HB1.out).mono ?_
    rintro e w2 ⟨hb2, ⟨hpl, fb2, base2, rfl, hbase, hfl⟩ | ⟨hpl, o, rfl⟩⟩
    · have HB2 := Aside0.mk (HB1.out.trans (hb2.mono HB1.out.size))
      have HG1 := Aside0.mk hfl.reads
      have HF2 := Aside0.mk (HF1.out.below hb2)
      have HFT := Aside0.mk (fit_any fb fb2 p.length (wdP p) (wdP p) (clP p) (clP p) (boxesP p) (boxesP p) w2 HF2.out HG1.out)
      clear hb2 hpl hfl hbase
      go_wp2_with fail
      refine HFT.out.mono ?_
      rintro e w3 ⟨rfl, h3⟩
      have HB3 := Aside0.mk (HB2.out.trans (h3.mono HB2.out.size))
      have f := planFlat HPL.out
      have HBE := Aside0.mk (beside_any fb fb2 p.length (wdP p) (wdP p) (clP p) (clP p) (boxesP p) (boxesP p) f.high f.wide f.wide f.few (fun i j hi hj => clP_small HPL.out hi hj) w3 (HF2.out.below h3) (HG1.out.below h3))
      have HWH := Aside0.mk (And.intro f.high f.wide)
      have HFW := Aside0.mk f.few
      clear h3 f
      go_wp2_with fail
      refine HBE.out.mono ?_
      rintro e w4 ⟨gb, rows, rfl, g1, g2, g3⟩
      have HB4 := Aside0.mk (HB3.out.trans (g3.mono HB3.out.size))
      have hlen : rows.length = p.length := by have := congrArg List.length g1; simpa using this
      have hgv : rows.map Prod.snd = besideR p := g1
      have hcell : ∀ row ∈ rows.map Prod.snd, row.length ≤ 100 ∧ ∀ x ∈ row, (0 : Int) ≤ x ∧ x ≤ 1000 := fun row hrow => by
        rw [g1] at hrow
        obtain ⟨r, hr, rfl⟩ := List.mem_map.1 hrow
        have h8 := HWH.out
        refine ⟨by rw [List.length_map, List.length_range]; omega, fun x hx => ?_⟩
        obtain ⟨c, hc, rfl⟩ := List.mem_map.1 hx
        have hr := List.mem_range.1 hr
        have hc := List.mem_range.1 hc
        have f := planFlat HPL.out
        have hfew := HFW.out
        have hsm : ∀ i j, i < p.length → j < wdP p → 0 ≤ clP p i j ∧ clP p i j < 9 := fun i j hi hj => by
          obtain ⟨k, hk, e⟩ := f.num i j hi hj
          omega
        unfold besV
        split
        · rename_i hlt; have := hsm r c hr hlt; omega
        · rename_i hlt; have := hsm r (c - wdP p) hr (by omega); omega
      have HPN := Aside0.mk (plan_any gb p.length rows hlen (by have := HWH.out; omega) w4 g2 (fun row h => (hcell row h).2) (fun row h => (hcell row h).1))
      rw [hgv] at HPN
      clear g1 g2 g3 hcell hlen hgv
      go_wp2_with fail
      refine HPN.out.mono ?_
      rintro e w5 ⟨⟨A3, c3, rfl, h1, h2⟩, hb3⟩
      have HB5 := Aside0.mk (HB4.out.trans (hb3.mono HB4.out.size))
      have HC3 := Aside0.mk (And.intro h1 h2)
      clear h1 h2 hb3
      go_wp2_with fail
      go_ret2
      exact ⟨⟨A3, c3, planV (besideR p), by rw [if_pos HPL.out], rfl, HC3.out.1, HC3.out.2⟩, HB5.out⟩
    · have := HPL.out
      rw [hpl] at this; cases this
  · have := HPL.out
    rw [hpl] at this; cases this
set_option maxHeartbeats 2000000 in
theorem planBeside_any (A : Option Addr) (cap : Nat) (p : List ByteArray) (hp : SmallP p) (hpl : planG p = true) (w : World) (hr0 : Kd.C Kd.string w A p.length p) (hc0 : p.length ≤ cap) :
    Calls Try.prog 52 #[.slice A p.length cap, .slice A p.length cap] w fun e w' => RemadeE p (besideR p) w w' e := by
  have HR := joined_beside A cap p hp hpl w hr0 hc0
  clear hr0
  go_enter Try.func52, Try.ntmps52
  go_wp2_with fail
  refine HR.mono ?_
  rintro e w1 ⟨⟨A1, c1, ⟨V, b⟩, hv, rfl, h1, h2⟩, hb⟩
  have HC := Aside0.mk (And.intro hv (And.intro h1 (And.intro h2 hb)))
  clear hv h1 h2 hb
  dsimp only
  go_wp2_with fail
  go_ret2
  exact ⟨⟨A1, c1, (V, b), HC.out.1, rfl, HC.out.2.1, HC.out.2.2.1⟩, HC.out.2.2.2⟩
end Go.Proofs.Ytdhnjecbdclmaaa
end
section
namespace Go.Proofs.Ytdhnjecbdclmaaa
open Go.RowKit Go.Shelf Go.Proofs.YtdhnjecbdclmaaaW.PrintWords Go.Proofs.YtdhnjecbdclmaaaW.PrintMore
set_option linter.unusedVariables false
set_option linter.unusedSimpArgs false
theorem dep_shift {cl cl' : Nat → Nat → Int} {h wd o : Nat} (hs : ∀ i j i' j', i < h → j < wd → i' < h → j' < wd → (cl' i (o + j) = cl' i' (o + j') ↔ cl i j = cl i' j')) : ∀ (d r c ph pw : Nat), r + ph ≤ h → c + pw ≤ wd → Dep cl d (r, c, ph, pw) → Dep cl' d (r, o + c, ph, pw) := by
  have same : ∀ r c ph pw, r + ph ≤ h → c + pw ≤ wd → SameAll cl (r, c, ph, pw) → SameAll cl' (r, o + c, ph, pw) := by
    intro r c ph pw hr hc g i j i' j' g1 g2
    unfold InR at g1 g2
    dsimp only at g1 g2
    have := (hs i (j - o) i' (j' - o) (by omega) (by omega) (by omega) (by omega)).2 (g i (j - o) i' (j' - o) (by unfold InR; dsimp only; omega) (by unfold InR; dsimp only; omega))
    rwa [show o + (j - o) = j by omega, show o + (j' - o) = j' by omega] at this
  intro d
  induction d with
  | zero => intro r c ph pw hr hc g; exact same r c ph pw hr hc g
  | succ d ih =>
    intro r c ph pw hr hc g
    rcases g with g | ⟨⟨b, k⟩, hx, g1, g2⟩
    · exact .inl (same r c ph pw hr hc g)
    · change (b, k) ∈ cutsL cl r c ph pw at hx
      cases b with
      | true =>
        obtain ⟨a, e, t⟩ := (cuts_lv ..).1 hx
        rw [throughL_iff] at t
        refine .inr ⟨(true, k), (cuts_lv ..).2 ⟨a, e, (throughL_iff ..).2 fun i hi he => ?_⟩, ih r c (k - r) pw (by omega) hc g1, ih k c (ph - (k - r)) pw (by omega) hc g2⟩
        have hi : i < pw := hi
        have := t i hi
        unfold sidesL at this he
        simp only [if_true] at this he
        rw [Nat.add_assoc] at he
        exact this ((hs _ _ _ _ (by omega) (by omega) (by omega) (by omega)).1 he)
      | false =>
        obtain ⟨a, e, t⟩ := (cuts_up ..).1 hx
        rw [throughL_iff] at t
        have q1 := ih r c ph (k - c) hr (by omega) g1
        have q2 := ih r k ph (pw - (k - c)) hr (by omega) g2
        refine .inr ⟨(false, o + k), (cuts_up ..).2 ⟨by show o + c + 1 ≤ o + k; omega, by show o + k < o + c + pw; omega, (throughL_iff ..).2 fun i hi he => ?_⟩, ?_, ?_⟩
        · have hi : i < ph := hi
          have := t i hi
          unfold sidesL at this he
          simp only [Bool.false_eq_true, if_false] at this he
          rw [show o + k - 1 = o + (k - 1) by omega] at he
          exact this ((hs _ _ _ _ (by omega) (by omega) (by omega) (by omega)).1 he)
        · show Dep cl' d (r, o + c, ph, o + k - (o + c))
          rw [show o + k - (o + c) = k - c by omega]; exact q1
        · show Dep cl' d (r, o + k, ph, pw - (o + k - (o + c)))
          rw [show o + k - (o + c) = k - c by omega]; exact q2
theorem cut_beside {p q : List ByteArray} (hp : planG p = true) (hq : Planned (besV (clP p) (boxesP p).length (wdP p) (clP p)) p.length (wdP p + wdP p) q) (hc : (cutTextP p).2 = true) : (cutTextP q).2 = true := by
  have f := planFlat hp
  have f' := planFlat hq.plan
  have hh := f.high
  have hw := f.wide
  have hw' := f'.wide
  rw [hq.wide] at hw'
  have hdp : (deepP p).isSome = true := by
    rw [← deep_text hp]
    unfold cutTextP at hc
    rw [if_pos hp] at hc
    exact hc
  obtain ⟨d, hd⟩ := Option.isSome_iff_exists.1 hdp
  have g := (deep_dep f 13 0 0 p.length (wdP p) (by omega) f.whole d).1 ⟨d, hd, Nat.le_refl _⟩
  have hn : ∀ i j, i < p.length → j < wdP p → 0 ≤ clP p i j ∧ clP p i j < ((boxesP p).length : Int) := fun i j hi hj => by
    obtain ⟨k, hk, e⟩ := f.num i j hi hj
    omega
  have s1 : ∀ i j i' j', i < p.length → j < wdP p → i' < p.length → j' < wdP p → (clP q i (0 + j) = clP q i' (0 + j') ↔ clP p i j = clP p i' j') := fun i j i' j' hi hj hi' hj' => by
    rw [hq.same i (0 + j) i' (0 + j') hi (by omega) hi' (by omega)]
    unfold besV
    rw [if_pos (by omega), if_pos (by omega), Nat.zero_add, Nat.zero_add]
  have s2 : ∀ i j i' j', i < p.length → j < wdP p → i' < p.length → j' < wdP p → (clP q i (wdP p + j) = clP q i' (wdP p + j') ↔ clP p i j = clP p i' j') := fun i j i' j' hi hj hi' hj' => by
    rw [hq.same i (wdP p + j) i' (wdP p + j') hi (by omega) hi' (by omega)]
    unfold besV
    rw [if_neg (by omega), if_neg (by omega), Nat.add_sub_cancel_left, Nat.add_sub_cancel_left]
    omega
  have d1 := dep_shift s1 d 0 0 p.length (wdP p) (by omega) (by omega) g
  have d2 := dep_shift s2 d 0 0 p.length (wdP p) (by omega) (by omega) g
  have g' : Dep (clP q) (d + 1) (0, 0, p.length, wdP p + wdP p) := by
    refine .inr ⟨(false, wdP p), (cuts_up ..).2 ⟨by show 0 + 1 ≤ wdP p; omega, by show wdP p < 0 + (wdP p + wdP p); omega, (throughL_iff ..).2 fun i hi he => ?_⟩, ?_, ?_⟩
    · unfold sidesL at he
      simp only [Bool.false_eq_true, if_false] at he
      have hi : i < p.length := hi
      have := (hq.same _ _ _ _ (by omega) (by omega) (by omega) (by omega)).1 he
      unfold besV at this
      rw [if_pos (by omega), if_neg (by omega)] at this
      have a := hn (0 + i) (wdP p - 1) (by omega) (by omega)
      have b := hn (0 + i) (wdP p - wdP p) (by omega) (by omega)
      omega
    · show Dep (clP q) d (0, 0, p.length, wdP p - 0)
      exact d1
    · show Dep (clP q) d (0, wdP p, p.length, wdP p + wdP p - (wdP p - 0))
      rw [show wdP p + wdP p - (wdP p - 0) = wdP p by omega]; exact d2
  unfold cutTextP
  rw [if_pos hq.plan]
  show (cutTextO q).isSome = true
  rw [deep_text hq.plan]
  obtain ⟨e, he, _⟩ := (deep_dep f' 13 0 0 q.length (wdP q) (by rw [hq.high, hq.wide]; omega) f'.whole (d + 1)).2 (by rw [hq.high, hq.wide]; exact g')
  unfold deepP
  rw [he]; rfl
end Go.Proofs.Ytdhnjecbdclmaaa
end
section
namespace Go.Proofs.Ytdhnjecbdclmaaa
open Go.RowKit Go.Shelf Go.Proofs.YtdhnjecbdclmaaaW.PrintWords Go.Proofs.YtdhnjecbdclmaaaW.PrintMore
set_option linter.unusedVariables false
set_option linter.unusedSimpArgs false
theorem step_mono {φ : Nat → Nat} (h : ∀ i, φ (i + 1) = φ i ∨ φ (i + 1) = φ i + 1) {a b : Nat} (hab : a ≤ b) : φ a ≤ φ b := by
  induction b with
  | zero => rw [show a = 0 by omega]; exact Nat.le_refl _
  | succ b ih =>
    by_cases e : a = b + 1
    · rw [e]; exact Nat.le_refl _
    · have := ih (by omega); have := h b; omega
theorem step_hits {φ : Nat → Nat} (h : ∀ i, φ (i + 1) = φ i ∨ φ (i + 1) = φ i + 1) {a n : Nat} : ∀ {x : Nat}, φ a ≤ x → x ≤ φ (a + n) → ∃ i, a ≤ i ∧ i ≤ a + n ∧ φ i = x := by
  induction n with
  | zero => intro x h1 h2; exact ⟨a, Nat.le_refl _, Nat.le_refl _, by rw [Nat.add_zero] at h2; omega⟩
  | succ n ih =>
    intro x h1 h2
    by_cases e : x ≤ φ (a + n)
    · obtain ⟨i, g1, g2, g3⟩ := ih h1 e; exact ⟨i, g1, by omega, g3⟩
    · have := h (a + n)
      rw [← Nat.add_assoc] at h2
      exact ⟨a + n + 1, by omega, by omega, by omega⟩
theorem tight_dep {cl cl' : Nat → Nat → Int} {h wd : Nat} {φ ψ : Nat → Nat} (hφ : ∀ i, φ (i + 1) = φ i ∨ φ (i + 1) = φ i + 1) (hψ : ∀ i, ψ (i + 1) = ψ i ∨ ψ (i + 1) = ψ i + 1) (hs : ∀ i j i' j', i < h → j < wd → i' < h → j' < wd → (cl' (φ i) (ψ j) = cl' (φ i') (ψ j') ↔ cl i j = cl i' j')) : ∀ (d r c ph pw : Nat), 1 ≤ ph → 1 ≤ pw → r + ph ≤ h → c + pw ≤ wd → Dep cl d (r, c, ph, pw) → Dep cl' d (φ r, ψ c, φ (r + (ph - 1)) - φ r + 1, ψ (c + (pw - 1)) - ψ c + 1) := by
  have same : ∀ r c ph pw, 1 ≤ ph → 1 ≤ pw → r + ph ≤ h → c + pw ≤ wd → SameAll cl (r, c, ph, pw) → SameAll cl' (φ r, ψ c, φ (r + (ph - 1)) - φ r + 1, ψ (c + (pw - 1)) - ψ c + 1) := by
    intro r c ph pw p1 p2 hr hc g i j i' j' g1 g2
    unfold InR at g1 g2
    dsimp only at g1 g2
    have m1 := step_mono hφ (show r ≤ r + (ph - 1) by omega)
    have m2 := step_mono hψ (show c ≤ c + (pw - 1) by omega)
    obtain ⟨a, a1, a2, rfl⟩ := step_hits hφ (x := i) g1.1.1 (by omega : i ≤ φ (r + (ph - 1)))
    obtain ⟨b, b1, b2, rfl⟩ := step_hits hψ (x := j) g1.2.1 (by omega : j ≤ ψ (c + (pw - 1)))
    obtain ⟨a', a1', a2', rfl⟩ := step_hits hφ (x := i') g2.1.1 (by omega : i' ≤ φ (r + (ph - 1)))
    obtain ⟨b', b1', b2', rfl⟩ := step_hits hψ (x := j') g2.2.1 (by omega : j' ≤ ψ (c + (pw - 1)))
    exact (hs _ _ _ _ (by omega) (by omega) (by omega) (by omega)).2 (g a b a' b' (by unfold InR; dsimp only; omega) (by unfold InR; dsimp only; omega))
  intro d
  induction d with
  | zero => intro r c ph pw p1 p2 hr hc g; exact same r c ph pw p1 p2 hr hc g
  | succ d ih =>
    intro r c ph pw p1 p2 hr hc g
    have m1 := step_mono hφ (show r ≤ r + (ph - 1) by omega)
    have m2 := step_mono hψ (show c ≤ c + (pw - 1) by omega)
    rcases g with g | ⟨⟨b, k⟩, hx, g1, g2⟩
    · exact .inl (same r c ph pw p1 p2 hr hc g)
    · change (b, k) ∈ cutsL cl r c ph pw at hx
      cases b with
      | true =>
        obtain ⟨a, e, t⟩ := (cuts_lv ..).1 hx
        rw [throughL_iff] at t
        have q1 := ih r c (k - r) pw (by omega) p2 (by omega) hc g1
        have q2 := ih k c (ph - (k - r)) pw (by omega) p2 (by omega) hc g2
        rw [show r + (k - r - 1) = k - 1 by omega] at q1
        rw [show k + (ph - (k - r) - 1) = r + (ph - 1) by omega] at q2
        have hne : φ k ≠ φ (k - 1) := fun he => by
          have := t 0 (by omega)
          unfold sidesL at this
          simp only [if_true] at this
          exact this ((hs _ _ _ _ (by omega) (by omega) (by omega) (by omega)).1 (by rw [he]))
        have hst := hφ (k - 1)
        rw [show k - 1 + 1 = k by omega] at hst
        have m3 := step_mono hφ (show r ≤ k - 1 by omega)
        have m4 := step_mono hφ (show k ≤ r + (ph - 1) by omega)
        refine .inr ⟨(true, φ k), (cuts_lv ..).2 ⟨by show φ r + 1 ≤ φ k; omega, by show φ k < φ r + (φ (r + (ph - 1)) - φ r + 1); omega, (throughL_iff ..).2 fun i hi he => ?_⟩, ?_, ?_⟩
        · have hi : i < ψ (c + (pw - 1)) - ψ c + 1 := hi
          unfold sidesL at he
          simp only [if_true] at he
          obtain ⟨j, j1, j2, je⟩ := step_hits hψ (a := c) (n := pw - 1) (x := ψ c + i) (by omega) (by omega)
          rw [← je, show φ k - 1 = φ (k - 1) by omega] at he
          have := t (j - c) (by omega)
          unfold sidesL at this
          simp only [if_true] at this
          rw [show c + (j - c) = j by omega] at this
          exact this ((hs _ _ _ _ (by omega) (by omega) (by omega) (by omega)).1 he)
        · show Dep cl' d (φ r, ψ c, φ k - φ r, ψ (c + (pw - 1)) - ψ c + 1)
          rw [show φ k - φ r = φ (k - 1) - φ r + 1 by omega]; exact q1
        · show Dep cl' d (φ k, ψ c, φ (r + (ph - 1)) - φ r + 1 - (φ k - φ r), ψ (c + (pw - 1)) - ψ c + 1)
          rw [show φ (r + (ph - 1)) - φ r + 1 - (φ k - φ r) = φ (r + (ph - 1)) - φ k + 1 by omega]; exact q2
      | false =>
        obtain ⟨a, e, t⟩ := (cuts_up ..).1 hx
        rw [throughL_iff] at t
        have q1 := ih r c ph (k - c) p1 (by omega) hr (by omega) g1
        have q2 := ih r k ph (pw - (k - c)) p1 (by omega) hr (by omega) g2
        rw [show c + (k - c - 1) = k - 1 by omega] at q1
        rw [show k + (pw - (k - c) - 1) = c + (pw - 1) by omega] at q2
        have hne : ψ k ≠ ψ (k - 1) := fun he => by
          have := t 0 (by omega)
          unfold sidesL at this
          simp only [Bool.false_eq_true, if_false] at this
          exact this ((hs _ _ _ _ (by omega) (by omega) (by omega) (by omega)).1 (by rw [he]))
        have hst := hψ (k - 1)
        rw [show k - 1 + 1 = k by omega] at hst
        have m3 := step_mono hψ (show c ≤ k - 1 by omega)
        have m4 := step_mono hψ (show k ≤ c + (pw - 1) by omega)
        refine .inr ⟨(false, ψ k), (cuts_up ..).2 ⟨by show ψ c + 1 ≤ ψ k; omega, by show ψ k < ψ c + (ψ (c + (pw - 1)) - ψ c + 1); omega, (throughL_iff ..).2 fun i hi he => ?_⟩, ?_, ?_⟩
        · have hi : i < φ (r + (ph - 1)) - φ r + 1 := hi
          unfold sidesL at he
          simp only [Bool.false_eq_true, if_false] at he
          obtain ⟨j, j1, j2, je⟩ := step_hits hφ (a := r) (n := ph - 1) (x := φ r + i) (by omega) (by omega)
          rw [← je, show ψ k - 1 = ψ (k - 1) by omega] at he
          have := t (j - r) (by omega)
          unfold sidesL at this
          simp only [Bool.false_eq_true, if_false] at this
          rw [show r + (j - r) = j by omega] at this
          exact this ((hs _ _ _ _ (by omega) (by omega) (by omega) (by omega)).1 he)
        · show Dep cl' d (φ r, ψ c, φ (r + (ph - 1)) - φ r + 1, ψ k - ψ c)
          rw [show ψ k - ψ c = ψ (k - 1) - ψ c + 1 by omega]; exact q1
        · show Dep cl' d (φ r, ψ k, φ (r + (ph - 1)) - φ r + 1, ψ (c + (pw - 1)) - ψ c + 1 - (ψ k - ψ c))
          rw [show ψ (c + (pw - 1)) - ψ c + 1 - (ψ k - ψ c) = ψ (c + (pw - 1)) - ψ k + 1 by omega]; exact q2
end Go.Proofs.Ytdhnjecbdclmaaa
end
