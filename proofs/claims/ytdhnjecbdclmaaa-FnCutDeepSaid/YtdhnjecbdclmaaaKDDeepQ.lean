/- Plain: the least depth of cuts depends on which cells are of one room alone; it bears turning and flipping; its bounds. -/
import Derived.Test.YtdhnjecbdclmaaaKDRemade
import Derived.Test.YtdhnjecbdclmaaaKDSpecWaysM
import Derived.Test.YtdhnjecbdclmaaaKDTurnedM
namespace Go.Proofs.Ytdhnjecbdclmaaa
open Go.RowKit Go.Shelf Go.Proofs.YtdhnjecbdclmaaaW.PrintWords Go.Proofs.YtdhnjecbdclmaaaW.PrintMore
set_option linter.unusedVariables false
set_option linter.unusedSimpArgs false
def SameAll (cl : Nat → Nat → Int) (R : Rc) : Prop := ∀ i j i' j', InR R.1 R.2.1 R.2.2.1 R.2.2.2 i j → InR R.1 R.2.1 R.2.2.1 R.2.2.2 i' j' → cl i j = cl i' j'
def Dep (cl : Nat → Nat → Int) : Nat → Rc → Prop
  | 0, R => SameAll cl R
  | d + 1, R => SameAll cl R ∨ ∃ x, x ∈ cutsL cl R.1 R.2.1 R.2.2.1 R.2.2.2 ∧ Dep cl d (oneR R.1 R.2.1 R.2.2.1 R.2.2.2 x) ∧ Dep cl d (twoR R.1 R.2.1 R.2.2.1 R.2.2.2 x)
theorem dep_same {cl : Nat → Nat → Int} {R : Rc} (h : SameAll cl R) : ∀ d, Dep cl d R := by
  intro d
  cases d with
  | zero => exact h
  | succ d => exact .inl h
theorem same_one {cl : Nat → Nat → Int} {boxes : List Box} {h wd r c ph pw : Nat} (f : Flat cl boxes h wd) (hw : Whole cl h wd r c ph pw) : (listL boxes (natB r c ph pw) boxes.length).length = 1 ↔ SameAll cl (r, c, ph, pw) := by
  rw [list_one f hw]
  have hs := hw.some
  constructor
  · intro g i j i' j' h1 h2
    rw [g i j h1, g i' j' h2]
  · intro g i j h1
    exact g i j r c h1 ⟨⟨Nat.le_refl _, by show r < r + ph; omega⟩, Nat.le_refl _, by show c < c + pw; omega⟩
theorem stepD_iff (b o1 o2 : Option Nat) (d : Nat) : (∃ e, stepD b o1 o2 = some e ∧ e ≤ d) ↔ (∃ e, b = some e ∧ e ≤ d) ∨ ∃ x y, o1 = some x ∧ o2 = some y ∧ 1 + max x y ≤ d := by
  unfold stepD
  cases o1 with
  | none => simp
  | some x =>
    cases o2 with
    | none => simp
    | some y =>
      cases b with
      | none => simp
      | some e =>
        simp only [Option.some.injEq]
        split
        · rename_i hlt
          constructor
          · rintro ⟨e', he, hd⟩
            obtain rfl := Option.some.inj he
            exact .inr ⟨x, y, rfl, rfl, hd⟩
          · rintro (⟨e', he, hd⟩ | ⟨x', y', hx, hy, hd⟩)
            · exact ⟨_, rfl, by omega⟩
            · exact ⟨_, rfl, by omega⟩
        · rename_i hlt
          constructor
          · rintro ⟨e', he, hd⟩
            obtain rfl := Option.some.inj he
            exact .inl ⟨e, rfl, hd⟩
          · rintro (⟨e', he, hd⟩ | ⟨x', y', hx, hy, hd⟩)
            · exact ⟨_, rfl, by omega⟩
            · exact ⟨_, rfl, by omega⟩
theorem foldD_iff {α : Type} (F G : α → Option Nat) (d : Nat) : ∀ (l : List α) (b : Option Nat), (∃ e, l.foldl (fun b x => stepD b (F x) (G x)) b = some e ∧ e ≤ d) ↔ (∃ e, b = some e ∧ e ≤ d) ∨ ∃ z, z ∈ l ∧ ∃ x y, F z = some x ∧ G z = some y ∧ 1 + max x y ≤ d := by
  intro l
  induction l with
  | nil => intro b; simp
  | cons a l ih =>
    intro b
    rw [List.foldl_cons, ih, stepD_iff]
    constructor
    · rintro ((h | h) | ⟨z, hz, h⟩)
      · exact .inl h
      · exact .inr ⟨a, List.mem_cons.2 (.inl rfl), h⟩
      · exact .inr ⟨z, List.mem_cons.2 (.inr hz), h⟩
    · rintro (h | ⟨z, hz, h⟩)
      · exact .inl (.inl h)
      · rcases List.mem_cons.1 hz with rfl | hz
        · exact .inl (.inr h)
        · exact .inr ⟨z, hz, h⟩
theorem deep_dep {cl : Nat → Nat → Int} {boxes : List Box} {h wd : Nat} (f : Flat cl boxes h wd) : ∀ (n r c ph pw : Nat), ph + pw < n → Whole cl h wd r c ph pw → ∀ d, (∃ e, deepO cl boxes n (r, c, ph, pw) = some e ∧ e ≤ d) ↔ Dep cl d (r, c, ph, pw) := by
  intro n
  induction n with
  | zero => intro r c ph pw h0; omega
  | succ n ih =>
    intro r c ph pw hlt hw d
    by_cases h1 : (listL boxes (natB r c ph pw) boxes.length).length = 1
    · have hs := (same_one f hw).1 h1
      unfold deepO
      rw [if_pos h1]
      exact ⟨fun _ => dep_same hs d, fun _ => ⟨0, rfl, Nat.zero_le _⟩⟩
    · have hs : ¬ SameAll cl (r, c, ph, pw) := fun g => h1 ((same_one f hw).2 g)
      unfold deepO
      rw [if_neg h1, foldD_iff]
      cases d with
      | zero =>
        constructor
        · rintro (⟨e, he, _⟩ | ⟨z, _, x, y, _, _, hd⟩)
          · cases he
          · omega
        · intro g; exact absurd g hs
      | succ d =>
        constructor
        · rintro (⟨e, he, _⟩ | ⟨z, hz, x, y, hx, hy, hd⟩)
          · cases he
          · obtain ⟨w1, w2⟩ := whole_parts f hw hz
            have i1 := (one_in hz).less
            have i2 := (two_in hz).less
            exact .inr ⟨z, hz, (ih _ _ _ _ (by omega) w1 d).1 ⟨x, hx, by omega⟩, (ih _ _ _ _ (by omega) w2 d).1 ⟨y, hy, by omega⟩⟩
        · rintro (g | ⟨z, hz, g1, g2⟩)
          · exact absurd g hs
          · change z ∈ cutsL cl r c ph pw at hz
            obtain ⟨w1, w2⟩ := whole_parts f hw hz
            have i1 := (one_in hz).less
            have i2 := (two_in hz).less
            obtain ⟨x, hx, hx'⟩ := (ih _ _ _ _ (by omega) w1 d).2 g1
            obtain ⟨y, hy, hy'⟩ := (ih _ _ _ _ (by omega) w2 d).2 g2
            exact .inr ⟨z, hz, x, y, hx, hy, by omega⟩
theorem dep_rooms {cl : Nat → Nat → Int} {boxes : List Box} {h wd : Nat} (f : Flat cl boxes h wd) : ∀ (d r c ph pw : Nat), Whole cl h wd r c ph pw → Dep cl d (r, c, ph, pw) → roomsN boxes r c ph pw ≤ 2 ^ d := by
  intro d
  induction d with
  | zero => intro r c ph pw hw g; exact Nat.le_of_eq ((same_one f hw).2 g)
  | succ d ih =>
    intro r c ph pw hw g
    rcases g with g | ⟨x, hx, g1, g2⟩
    · have : roomsN boxes r c ph pw = 1 := (same_one f hw).2 g
      rw [this]; exact Nat.one_le_two_pow
    · obtain ⟨w1, w2⟩ := whole_parts f hw hx
      have e := rooms_split f hw hx
      have a := ih _ _ _ _ w1 g1
      have b := ih _ _ _ _ w2 g2
      rw [Nat.pow_succ]; omega
theorem dep_few {cl : Nat → Nat → Int} {boxes : List Box} {h wd : Nat} (f : Flat cl boxes h wd) : ∀ (d r c ph pw : Nat), Whole cl h wd r c ph pw → Dep cl d (r, c, ph, pw) → Dep cl (roomsN boxes r c ph pw - 1) (r, c, ph, pw) := by
  have up : ∀ (d e : Nat) (R : Rc), d ≤ e → Dep cl d R → Dep cl e R := by
    intro d
    induction d with
    | zero => intro e R _ g; exact dep_same g e
    | succ d ih =>
      intro e R hle g
      obtain ⟨e, rfl⟩ : ∃ k, e = k + 1 := ⟨e - 1, by omega⟩
      rcases g with g | ⟨x, hx, g1, g2⟩
      · exact .inl g
      · exact .inr ⟨x, hx, ih e _ (by omega) g1, ih e _ (by omega) g2⟩
  intro d
  induction d with
  | zero => intro r c ph pw hw g; exact dep_same g _
  | succ d ih =>
    intro r c ph pw hw g
    rcases g with g | ⟨x, hx, g1, g2⟩
    · exact dep_same g _
    · obtain ⟨w1, w2⟩ := whole_parts f hw hx
      have e := rooms_split f hw hx
      have p1 := rooms_pos f w1
      have p2 := rooms_pos f w2
      have a := ih _ _ _ _ w1 g1
      have b := ih _ _ _ _ w2 g2
      obtain ⟨m, hm⟩ : ∃ m, roomsN boxes r c ph pw - 1 = m + 1 := ⟨roomsN boxes r c ph pw - 2, by omega⟩
      rw [hm]
      exact .inr ⟨x, hx, up _ m _ (by omega) a, up _ m _ (by omega) b⟩
section
variable {cl cl' : Nat → Nat → Int} {h wd : Nat}
def backR (h : Nat) (R : Rc) : Rc := (h - R.2.1 - R.2.2.2, R.1, R.2.2.2, R.2.2.1)
theorem turn_dep (hs : ∀ i j i' j', i < wd → j < h → i' < wd → j' < h → (cl' i j = cl' i' j' ↔ cl (h - 1 - j) i = cl (h - 1 - j') i')) : ∀ (d r c ph pw : Nat), r + ph ≤ wd → c + pw ≤ h → 1 ≤ ph → 1 ≤ pw → (Dep cl' d (r, c, ph, pw) ↔ Dep cl d (backR h (r, c, ph, pw))) := by
  have same : ∀ r c ph pw, r + ph ≤ wd → c + pw ≤ h → (SameAll cl' (r, c, ph, pw) ↔ SameAll cl (backR h (r, c, ph, pw))) := by
    intro r c ph pw hr hc
    unfold SameAll backR InR
    dsimp only
    constructor
    · intro g i j i' j' g1 g2
      have := (hs j (h - 1 - i) j' (h - 1 - i') (by omega) (by omega) (by omega) (by omega)).1 (g j (h - 1 - i) j' (h - 1 - i') (by omega) (by omega))
      rwa [show h - 1 - (h - 1 - i) = i by omega, show h - 1 - (h - 1 - i') = i' by omega] at this
    · intro g i j i' j' g1 g2
      exact (hs i j i' j' (by omega) (by omega) (by omega) (by omega)).2 (g (h - 1 - j) i (h - 1 - j') i' (by omega) (by omega))
  intro d
  induction d with
  | zero => intro r c ph pw hr hc _ _; exact same r c ph pw hr hc
  | succ d ih =>
    intro r c ph pw hr hc h1 h2
    have lv : ∀ k, (true, k) ∈ cutsL cl' r c ph pw ↔ (false, k) ∈ cutsL cl (h - c - pw) r pw ph := by
      intro k
      rw [cuts_lv, cuts_up, throughL_iff, throughL_iff]
      unfold sidesL
      simp only [if_true, Bool.false_eq_true, if_false]
      constructor
      · rintro ⟨a, b, g⟩
        refine ⟨a, b, fun i hi e => g (pw - 1 - i) (by omega) ((hs _ _ _ _ (by omega) (by omega) (by omega) (by omega)).2 ?_)⟩
        rw [show h - 1 - (c + (pw - 1 - i)) = h - c - pw + i by omega]; exact e
      · rintro ⟨a, b, g⟩
        refine ⟨a, b, fun i hi e => g (pw - 1 - i) (by omega) ?_⟩
        have := (hs _ _ _ _ (by omega) (by omega) (by omega) (by omega)).1 e
        rwa [show h - 1 - (c + i) = h - c - pw + (pw - 1 - i) by omega] at this
    have upr : ∀ k, k ≤ h → ((false, k) ∈ cutsL cl' r c ph pw ↔ (true, h - k) ∈ cutsL cl (h - c - pw) r pw ph) := by
      intro k hk
      rw [cuts_lv, cuts_up, throughL_iff, throughL_iff]
      unfold sidesL
      simp only [if_true, Bool.false_eq_true, if_false]
      constructor
      · rintro ⟨a, b, g⟩
        refine ⟨by omega, by omega, fun i hi e => g i hi ((hs _ _ _ _ (by omega) (by omega) (by omega) (by omega)).2 ?_)⟩
        rw [show h - 1 - (k - 1) = h - k by omega, show h - 1 - k = h - k - 1 by omega]; exact e.symm
      · rintro ⟨a, b, g⟩
        refine ⟨by omega, by omega, fun i hi e => g i hi ?_⟩
        have := (hs _ _ _ _ (by omega) (by omega) (by omega) (by omega)).1 e
        rw [show h - 1 - (k - 1) = h - k by omega, show h - 1 - k = h - k - 1 by omega] at this
        exact this.symm
    show (SameAll cl' (r, c, ph, pw) ∨ ∃ x, x ∈ cutsL cl' r c ph pw ∧ Dep cl' d (oneR r c ph pw x) ∧ Dep cl' d (twoR r c ph pw x)) ↔ (SameAll cl (backR h (r, c, ph, pw)) ∨ ∃ x, x ∈ cutsL cl (h - c - pw) r pw ph ∧ Dep cl d (oneR (h - c - pw) r pw ph x) ∧ Dep cl d (twoR (h - c - pw) r pw ph x))
    refine or_congr (same r c ph pw hr hc) ?_
    have dl : ∀ k, r + 1 ≤ k → k < r + ph → ((Dep cl' d (oneR r c ph pw (true, k)) ∧ Dep cl' d (twoR r c ph pw (true, k))) ↔ (Dep cl d (oneR (h - c - pw) r pw ph (false, k)) ∧ Dep cl d (twoR (h - c - pw) r pw ph (false, k)))) := by
      intro k k1 k2
      refine and_congr (ih r c (k - r) pw (by omega) hc (by omega) h2) ?_
      exact ih k c (ph - (k - r)) pw (by omega) hc (by omega) h2
    have du : ∀ k, c + 1 ≤ k → k < c + pw → ((Dep cl' d (oneR r c ph pw (false, k)) ∧ Dep cl' d (twoR r c ph pw (false, k))) ↔ (Dep cl d (oneR (h - c - pw) r pw ph (true, h - k)) ∧ Dep cl d (twoR (h - c - pw) r pw ph (true, h - k)))) := by
      intro k k1 k2
      have e1 : backR h (oneR r c ph pw (false, k)) = twoR (h - c - pw) r pw ph (true, h - k) := by
        show (h - c - (k - c), r, k - c, ph) = (h - k, r, pw - ((h - k) - (h - c - pw)), ph)
        rw [show h - c - (k - c) = h - k by omega, show pw - ((h - k) - (h - c - pw)) = k - c by omega]
      have e2 : backR h (twoR r c ph pw (false, k)) = oneR (h - c - pw) r pw ph (true, h - k) := by
        show (h - k - (pw - (k - c)), r, pw - (k - c), ph) = (h - c - pw, r, (h - k) - (h - c - pw), ph)
        rw [show h - k - (pw - (k - c)) = h - c - pw by omega, show (h - k) - (h - c - pw) = pw - (k - c) by omega]
      have a1 := ih r c ph (k - c) hr (by omega) h1 (by omega)
      have a2 := ih r k ph (pw - (k - c)) hr (by omega) h1 (by omega)
      change Dep cl' d (oneR r c ph pw (false, k)) ↔ Dep cl d (backR h (oneR r c ph pw (false, k))) at a1
      change Dep cl' d (twoR r c ph pw (false, k)) ↔ Dep cl d (backR h (twoR r c ph pw (false, k))) at a2
      rw [a1, a2, e1, e2]
      exact and_comm
    constructor
    · rintro ⟨⟨b, k⟩, hx, g⟩
      cases b with
      | true =>
        have := (cuts_lv ..).1 hx
        exact ⟨(false, k), (lv k).1 hx, (dl k this.1 this.2.1).1 g⟩
      | false =>
        have := (cuts_up ..).1 hx
        exact ⟨(true, h - k), (upr k (by omega)).1 hx, (du k this.1 this.2.1).1 g⟩
    · rintro ⟨⟨b, k⟩, hx, g⟩
      cases b with
      | false =>
        have := (cuts_up ..).1 hx
        exact ⟨(true, k), (lv k).2 hx, (dl k this.1 this.2.1).2 g⟩
      | true =>
        have := (cuts_lv ..).1 hx
        have e : h - (h - k) = k := by omega
        refine ⟨(false, h - k), (upr (h - k) (by omega)).2 (by rw [e]; exact hx), (du (h - k) (by omega) (by omega)).2 (by rw [e]; exact g)⟩
end
theorem deep_le {cl cl' : Nat → Nat → Int} {o o' : Option Nat} (g : ∀ d, (∃ e, o = some e ∧ e ≤ d) ↔ (∃ e, o' = some e ∧ e ≤ d)) : o = o' := by
  cases o with
  | none =>
    cases o' with
    | none => rfl
    | some e' => obtain ⟨e, h, _⟩ := (g e').2 ⟨e', rfl, Nat.le_refl _⟩; cases h
  | some e =>
    obtain ⟨a, ha, hle⟩ := (g e).1 ⟨e, rfl, Nat.le_refl _⟩
    subst ha
    obtain ⟨b, hb, hle2⟩ := (g a).2 ⟨a, rfl, Nat.le_refl _⟩
    obtain rfl := Option.some.inj hb
    rw [show e = a by omega]
theorem deepP_turn {p q : List ByteArray} (hp : planG p = true) (hq : Planned (fun r c => clP p (p.length - 1 - c) r) (wdP p) p.length q) : deepP q = deepP p := by
  have f := planFlat hp
  have f' := planFlat hq.plan
  have hh := f.high
  have hw := f.wide
  refine deep_le (cl := clP p) (cl' := clP p) fun d => ?_
  unfold deepP
  rw [deep_dep f 13 0 0 p.length (wdP p) (by omega) f.whole d]
  have h2 := deep_dep f' 13 0 0 q.length (wdP q) (by rw [hq.high, hq.wide]; omega) f'.whole d
  rw [h2, hq.high, hq.wide, turn_dep hq.same d 0 0 (wdP p) p.length (by omega) (by omega) hw.1 hh.1]
  unfold backR
  dsimp only
  rw [show p.length - 0 - p.length = 0 by omega]
theorem deepP_bounds {p : List ByteArray} (hp : planG p = true) {d : Nat} (hd : deepP p = some d) : d < (boxesP p).length ∧ (boxesP p).length ≤ 2 ^ d := by
  have f := planFlat hp
  have hh := f.high
  have hw := f.wide
  have hall : roomsN (boxesP p) 0 0 p.length (wdP p) = (boxesP p).length := by
    unfold roomsN
    exact list_all f _ (Nat.le_refl _)
  have g := (deep_dep f 13 0 0 p.length (wdP p) (by omega) f.whole d).1 ⟨d, hd, Nat.le_refl _⟩
  have g2 := dep_rooms f d _ _ _ _ f.whole g
  have g3 := dep_few f d _ _ _ _ f.whole g
  obtain ⟨e, he, hle⟩ := (deep_dep f 13 0 0 p.length (wdP p) (by omega) f.whole _).2 g3
  have hp1 := rooms_pos f f.whole
  have : e = d := by
    have : deepP p = some e := he
    rw [hd] at this; exact (Option.some.inj this).symm
  rw [hall] at g2 hle hp1
  omega
end Go.Proofs.Ytdhnjecbdclmaaa
